/- The law SocketCuts' walk. -/
import Derived.Test.YtmgfpjfamdbhbaaDoorStep
namespace Go.Proofs.YtmgfpjfamdbhbaaDoor
open Go.RowKit

/-- what is fed in two parts -/
theorem feedL_append (p : RP) (a b : List UInt8) : feedL p (a ++ b) = ((feedL (feedL p a).1 b).1, (feedL p a).2 ++ (feedL (feedL p a).1 b).2) := by
  by_cases hc : p.code = 0
  case neg => simp [feedL, hc]
  have h := feedGo_plus (p.rest.length + a.length + 1) { p with rest := p.rest ++ a } b (p.rest.length + (a ++ b).length + 1) hc (by simp) (by simp)
  have e1 : feedL p (a ++ b) = feedGo (p.rest.length + (a ++ b).length + 1) (({ p with rest := p.rest ++ a } : RP).plus b) [] := by
    rw [feedL, if_neg (by simp [hc])]; simp only [RP.plus, List.append_assoc]
  have e2 : feedL p a = feedGo (p.rest.length + a.length + 1) { p with rest := p.rest ++ a } [] := by rw [feedL, if_neg (by simp [hc])]
  rw [e1, h, ← e2]
  have hr : (feedL p a).1.rest.length ≤ p.rest.length + a.length := by
    rw [e2]; refine Nat.le_trans (feedGo_rest _ _ _) ?_; simp
  generalize feedL p a = T at *
  obtain ⟨q, o⟩ := T
  simp only at hr ⊢
  by_cases hq : q.code ≠ 0
  · rw [if_pos hq]; simp [feedL, hq]
  · rw [if_neg hq]
    have e3 : feedL q b = feedGo (q.rest.length + b.length + 1) (q.plus b) [] := by rw [feedL, if_neg hq]; rfl
    rw [e3, feedGo_fuel (q.rest.length + b.length + 1) (q.plus b) (p.rest.length + (a ++ b).length + 1) (by simp [RP.plus]) (by rw [List.length_append]; omega)]

theorem ext_split (t : ByteArray) (k : Nat) (_h : k ≤ t.size) : bl t = bl (t.extract 0 k) ++ bl (t.extract k t.size) := by
  rw [bl_extract, bl_extract, List.drop_zero, Nat.sub_zero]
  have e : ((bl t).drop k).take (t.size - k) = (bl t).drop k := List.take_of_length_le (by rw [List.length_drop, bl_length]; exact Nat.le_refl _)
  rw [e, List.take_append_drop]
theorem add_block (a : Addr) (j : Nat) : (a.add j).block = a.block := by unfold Addr.add; split <;> rfl
/-- the slice v holds the ints zs -/
def IntsAt (w : World) (v : Value) (zs : List Int) : Prop :=
  (v = .slice none 0 0 ∧ zs = []) ∨ ∃ (a : Addr) (cap : Nat), v = .slice (some a) zs.length cap ∧ (0 < zs.length → a.block < w.heap.size) ∧ ∀ i (h : i < zs.length), w.cell? (a.add i) = some (.int .i64 zs[i])
theorem Left.own' {w w' : World} {base b : Nat} {p : RP} {v v' : Value} {p0 : RP} (hl : Left w w' base b p v v') (h0 : PeerAt w base b p0 v) {B : Nat} (hB : B ≤ base) (hs : base ≤ w.heap.size) : Below B w w' :=
  hl.2.1.own (by omega) (by have := h0.1; omega) (fun g hg => by have := (h0.2.2.1.lt hg).1; omega)

set_option maxHeartbeats 3000000 in
set_option maxRecDepth 100000 in
theorem cuts_any (most : Int) (s : ByteArray) (v : Value) (zs : List Int) (w : World) (hT : Tabs w) (hs : s.size ≤ 1048576) (hz : IntsAt w v zs) (hzl : zs.length ≤ 1048576) :
    Calls Tryd.prog 7 #[.int .i64 most, .string s, v] w fun e w' => e = .returned (.bool true) ∧ Below w.heap.size w w' := by
  have hA := awake_any w hT
  have h2 := hT.two
  by_cases hm : most < 0 ∨ 16777216 < most
  · rcases (show most < 0 ∨ (¬ most < 0 ∧ 16777216 < most) by omega) with hm | ⟨hm, hm2⟩
    all_goals
      go_enter Tryd.func7, Tryd.ntmps7
      go_wp2_with (first | (go_at_call 14; refine hA.mono ?_; rintro e w1 ⟨rfl, hb1⟩))
      go_ret
      exact ⟨rfl, hb1⟩
  have hm0 : ¬ most < 0 := by omega
  have hm1 : ¬ 16777216 < most := by omega
  have hN := fun wx => new_ok most wx (by omega) (by omega)
  have HT := Lib.hid (fun wx (hb : Below w.heap.size w wx) => hT.below hT.size hb)
  have hW := fun wx (hT : Tabs wx) => whole_any most s wx hT (by omega)
  have hwl : wholeL most (bl s) = ((feedL (newL most) (bl s)).2, (feedL (newL most) (bl s)).1.code != 0) := by rw [wholeL, if_neg hm]
  have haft := (feed_after (newL most) (bl s) ⟨by show 0 ≤ most; omega, by show most ≤ 16777216; omega⟩ (by simp [newL])).out
  rw [hwl] at hW
  have hwsz : (feedL (newL most) (bl s)).2.length ≤ 2097152 := by simp only [newL, List.length_nil, bl_length] at haft ⊢; omega
  have HF0 := Lib.hid (show (feedL (newL most) (bl s)).2 = [] ++ (feedL (newL most) (bl s)).2 from rfl)
  generalize hFW : feedL (newL most) (bl s) = FW at *
  obtain ⟨FP, FO⟩ := FW
  simp only at hW hwsz HF0
  have HFW := Lib.hid hFW
  generalize hCLO : (FP.code != 0) = CLO at *
  have HCLO := Lib.hid hCLO
  clear hm hwl haft hT hFW hCLO
  have hlen : ∃ ao cap, v = .slice ao zs.length cap := by
    rcases hz with ⟨rfl, rfl⟩ | ⟨a, cap, rfl, _, _⟩
    · exact ⟨none, 0, rfl⟩
    · exact ⟨_, cap, rfl⟩
  obtain ⟨ao, cap, hv⟩ := hlen
  subst hv
  have Hz := Lib.hid hz
  clear hz
  go_enter Tryd.func7, Tryd.ntmps7
  go_upto_region 11 with (first | (go_at_call 14; refine hA.mono ?_; rintro e w1 ⟨rfl, hb1⟩) | (go_at_call 28; refine (hN _).mono ?_; rintro e w2 ⟨rfl, hp2, hb2, hs2⟩) | (go_at_call 26; refine (hW _ (HT.out _ (hb1.trans (hb2.mono hb1.size)))).mono ?_; rintro e w3 ⟨rfl, hb3⟩))
  have hB3 : Below w.heap.size w w3 := (hb1.trans (hb2.mono hb1.size)).trans (hb3.mono (Nat.le_trans hb1.size hb2.size))
  have HB3 := Lib.hid hB3
  have HP3 := Lib.hid (hp2.below hb3 (Nat.le_refl _))
  have H1s := Lib.hid hb1.size
  have HFOl := Lib.hid hwsz
  generalize w1.heap.size = b0 at *
  clear hB3 hb1 hb2 hb3 hp2 hs2 hA hN hW hwsz
  go_wp2_with fail
  go_loopg [11, 12, 44] (zs.length + 1) (fun gk o r i wr => ∃ (p : RP) (pv : Value) (out rest : ByteArray) (j : Nat), o = .string out ∧ r = .string rest ∧ i = .int .i64 j ∧ j ≤ zs.length ∧ gk = zs.length - j + 1 ∧ out.size ≤ 2097152 ∧ rest.size ≤ 1048576 ∧
    Hid (PeerAt wr b0 b0 p pv) ∧ Hid (Below w.heap.size w wr) ∧ Hid (bl out ++ (feedL p (bl rest)).2 = FO) ∧ Hid (((feedL p (bl rest)).1.code != 0) = CLO) ∧ Hid (p.most = most ∧ p.msg.length ≤ 16777216 ∧ p.msg.length + p.rest.length + rest.size ≤ 1048576))
  case atStart =>
    exact ⟨newL most, .slice none 0 0, ⟨#[]⟩, s, 0, rfl, rfl, rfl, Nat.zero_le _, rfl, by show 0 ≤ _; omega, hs, HP3, HB3, Lib.hid (by rw [HFW.out]; rfl), Lib.hid (by rw [HFW.out]; exact HCLO.out), Lib.hid ⟨rfl, by simp [newL], by simp [newL]; exact hs⟩⟩
  case round =>
    obtain ⟨p, pv, out, rest, j, rfl, rfl, rfl, hj, rfl, hol, hrl, Hp, HB, HO, HC, HS⟩ := hrel
    clear HP3 HB3 HFW HF0
    have hTx := HT.out wr HB.out
    have hbs : b0 ≤ wr.heap.size := by have := Hp.out.lt; omega
    by_cases hlt : j < zs.length
    · obtain ⟨a, hao, hcell⟩ : ∃ a : Addr, ao = some a ∧ wr.cell? (a.add j) = some (.int .i64 (zs[j]'hlt)) := by
        rcases Hz.out with ⟨_, h0⟩ | ⟨a, cap', he, hbl, hc⟩
        · rw [h0] at hlt; simp at hlt
        · simp only [Value.slice.injEq] at he
          exact ⟨a, he.1, (HB.out.cell (p := a.add j) (by have := hbl (by omega); rw [add_block]; exact this)).trans (hc j hlt)⟩
      subst hao
      obtain ⟨c, hc⟩ : ∃ c, zs[j]'hlt = c := ⟨_, rfl⟩
      rw [hc] at hcell
      have hK : ∀ wx, Calls Tryd.prog 29 #[.int .i64 c, .int .i64 ((rest.size : Int) + 1)] wx fun e w' => e = .returned (.int .i64 (kindN c (rest.size + 1) : Nat)) ∧ wx = w' := fun wx => kind_any c (rest.size + 1) wx (by omega) (by omega)
      have hkl := kindN_lt c (rest.size + 1) (by omega)
      generalize kindN c (rest.size + 1) = k at *
      have hk1 : (k : Int) ≤ (rest.size : Int) := by omega
      have hex : (rest.extract 0 k).size = k := by rw [ByteArray.size_extract]; omega
      have hF := feed_any b0 b0 p pv (rest.extract 0 k) wr Hp.out hTx (by have := H1s.out; omega) hbs (by rw [HS.out.1]; omega) HS.out.2.1 (by rw [hex]; have := HS.out.2.2; omega)
      have hbx := ext_split rest k (by omega)
      have hap := feedL_append p (bl (rest.extract 0 k)) (bl (rest.extract k rest.size))
      rw [← hbx] at hap
      have hO2 := HO.out
      have hC2 := HC.out
      rw [hap] at hO2 hC2
      have haf := feed_after p (bl (rest.extract 0 k)) (by rw [HS.out.1]; omega) HS.out.2.1
      have hfh := feed_held p (bl (rest.extract 0 k))
      rw [bl_length, hex] at haf hfh
      generalize feedL p (bl (rest.extract 0 k)) = FF at *
      obtain ⟨p1, o1⟩ := FF
      simp only at hF hO2 hC2 haf hfh
      have hs2 := HS.out.2.2
      have hzo : (bs o1).size ≤ 2097152 := by rw [bs_size]; have := haf.out; omega
      have hsz2 : p1.msg.length + p1.rest.length + (rest.size - k) ≤ 1048576 := by omega
      have HAF := Lib.hid haf
      have Hsz2 := Lib.hid hsz2
      have HO3 := Lib.hid hO2
      have HC3 := Lib.hid hC2
      have Hex2 := Lib.hid (show (rest.extract k rest.size).size = rest.size - k by rw [ByteArray.size_extract]; omega)
      clear hex hbx hap hO2 hC2 haf hfh hs2 hsz2
      go_upto_region 15 with (first | (go_at_call 29; refine (hK _).mono ?_; rintro e w4 ⟨rfl, rfl⟩) | (go_at_call 30; refine hF.mono ?_; rintro e w5 ⟨rfl, pv1, hl5⟩))
      have hl5o := hl5.own' Hp.out H1s.out hbs
      have hb9 := HB.out.trans hl5o
      obtain ⟨OUT, hOUT⟩ : ∃ OUT, out ++ bs o1 = OUT := ⟨_, rfl⟩
      have hOb : bl OUT = bl out ++ o1 := by rw [← hOUT, bl_append, bl_bs]
      have hFO : FO = bl OUT ++ (feedL p1 (bl (rest.extract k rest.size))).2 := by rw [← HO3.out, hOb, List.append_assoc]
      have hosz : OUT.size ≤ (bs FO).size := by rw [bs_size, hFO, List.length_append, bl_length]; omega
      have hEx : (bs FO).extract 0 OUT.size = OUT := by
        apply bl_inj
        rw [bl_extract, bl_bs, hFO, List.drop_zero, Nat.sub_zero, List.take_append_of_le_length (by rw [bl_length]; exact Nat.le_refl _), List.take_of_length_le (by rw [bl_length]; exact Nat.le_refl _)]
      have hosz2 : OUT.size ≤ 2097152 := by rw [bs_size] at hosz; have := HFOl.out; omega
      have ho0 : (0 : Int) ≤ (OUT.size : Int) := by omega
      have ho1 : (OUT.size : Int) ≤ ((bs FO).size : Int) := by omega
      have ho2 : ¬ ((bs FO).size : Int) < (OUT.size : Int) := by omega
      have hk0 : (0 : Int) ≤ (k : Int) := by omega
      have HFOe := Lib.hid hFO
      have HOb := Lib.hid hOb
      have HB9 := Lib.hid hb9
      have HP9 := Lib.hid hl5.1
      rw [hOUT]
      clear hOUT hOb hFO hosz hb9 hl5o hl5
      generalize hR2 : rest.extract k rest.size = R2 at *
      go_wp2_with fail
      go_roundg (zs.length - (j + 1) + 1)
      case measure => omega
      case rel =>
        refine ⟨p1, pv1, OUT, R2, j + 1, rfl, rfl, by go_num, by omega, rfl, hosz2, by have := Hex2.out; omega, HP9, HB9, ?_, HC3, ?_⟩
        · show _ = _
          rw [HOb.out, List.append_assoc]; exact HO3.out
        · exact Lib.hid ⟨by rw [HAF.out.most]; exact HS.out.1, HAF.out.msgs, by rw [Hex2.out]; exact Hsz2.out⟩
    · obtain rfl : j = zs.length := by omega
      have hF := feed_any b0 b0 p pv rest wr Hp.out hTx (by have := H1s.out; omega) hbs (by rw [HS.out.1]; omega) HS.out.2.1 (by have := HS.out.2.2; omega)
      have haf := (feed_after p (bl rest) (by rw [HS.out.1]; omega) HS.out.2.1).out
      have hO2 := HO.out
      have hC2 := HC.out
      have hs2 := HS.out.2.2
      rw [bl_length] at haf
      generalize feedL p (bl rest) = FF at *
      obtain ⟨p1, o1⟩ := FF
      simp only at hF hO2 hC2 haf
      have hzo : (bs o1).size ≤ 2097152 := by rw [bs_size]; omega
      have hOUT : out ++ bs o1 = bs FO := by apply bl_inj; rw [bl_append, bl_bs, bl_bs]; exact hO2
      have HC3 := Lib.hid hC2
      clear hO2 hC2 haf hs2
      go_wp2_with (first | (go_at_call 30; refine hF.mono ?_; rintro e w5 ⟨rfl, pv1, hl5⟩; have hCl := closed_any _ _ _ _ _ hl5.1; rw [HC3.out] at hCl) | (go_at_call 31; refine hCl.mono ?_; rintro e w6 ⟨rfl, rfl⟩))
      go_ret
      exact ⟨by simp, HB.out.trans (hl5.own' Hp.out H1s.out hbs)⟩
end Go.Proofs.YtmgfpjfamdbhbaaDoor
