/- The reference's Feed, by value; the stream is shorter than 2^47 bytes. -/
import Derived.Test.YtmgfpjfamdbhbaaDoorRTake
import Derived.Test.YtmgfpjfamdbhbaaDoorAwake
namespace Go.Proofs.YtmgfpjfamdbhbaaDoor
open Go.RowKit

theorem six_cells {w : World} {b : Nat} {t : TypeId} {v0 v1 v2 v3 v4 v5 : Value} (h : w.heap[b]? = some (.cells #[v0, v1, v2, v3, v4, v5] t (0, 0))) :
    w.cell? ⟨b, 0, none⟩ = some v0 ∧ w.cell? ⟨b, 1, none⟩ = some v1 ∧ w.cell? ⟨b, 2, none⟩ = some v2 ∧ w.cell? ⟨b, 3, none⟩ = some v3 ∧ w.cell? ⟨b, 4, none⟩ = some v4 ∧ w.cell? ⟨b, 5, none⟩ = some v5 ∧ (∀ j, w.frozen? ⟨b, j, none⟩ = false) :=
  ⟨hd_cell h 0, hd_cell h 1, hd_cell h 2, hd_cell h 3, hd_cell h 4, hd_cell h 5, hd_frozen h⟩
theorem five_cells {w : World} {b : Nat} {t : TypeId} {v0 v1 v2 v3 v4 : Value} (h : w.heap[b]? = some (.cells #[v0, v1, v2, v3, v4] t (0, 0))) :
    w.cell? ⟨b, 0, none⟩ = some v0 ∧ w.cell? ⟨b, 1, none⟩ = some v1 ∧ w.cell? ⟨b, 2, none⟩ = some v2 ∧ w.cell? ⟨b, 3, none⟩ = some v3 ∧ w.cell? ⟨b, 4, none⟩ = some v4 ∧ (∀ j, w.frozen? ⟨b, j, none⟩ = false) :=
  ⟨hd_cell h 0, hd_cell h 1, hd_cell h 2, hd_cell h 3, hd_cell h 4, hd_frozen h⟩
/-- six cells stored into block b -/
def sixW (w : World) (b : Nat) (v0 v1 v2 v3 v4 v5 : Value) : World := ((((((w.setCell ⟨b, 0, none⟩ v0).setCell ⟨b, 1, none⟩ v1).setCell ⟨b, 2, none⟩ v2).setCell ⟨b, 3, none⟩ v3).setCell ⟨b, 4, none⟩ v4).setCell ⟨b, 5, none⟩ v5)
theorem sixW_below {B b : Nat} {w x : World} (h : Below B w x) (hb : B ≤ b) (v0 v1 v2 v3 v4 v5 : Value) : Below B w (sixW x b v0 v1 v2 v3 v4 v5) :=
  below_set (below_set (below_set (below_set (below_set (below_set h hb _ _) hb _ _) hb _ _) hb _ _) hb _ _) hb _ _
theorem sixW_other {b g : Nat} {x : World} (hne : g ≠ b) (v0 v1 v2 v3 v4 v5 : Value) : (sixW x b v0 v1 v2 v3 v4 v5).heap[g]? = x.heap[g]? := by
  unfold sixW
  rw [Below.heap_setCell _ _ _ _ hne, Below.heap_setCell _ _ _ _ hne, Below.heap_setCell _ _ _ _ hne, Below.heap_setCell _ _ _ _ hne, Below.heap_setCell _ _ _ _ hne, Below.heap_setCell _ _ _ _ hne]
theorem sixW_same {b : Nat} {x : World} {cs : Array Value} {t : TypeId} (h : x.heap[b]? = some (.cells cs t (0, 0))) (hs : cs.size = 6) (v0 v1 v2 v3 v4 v5 : Value) :
    (sixW x b v0 v1 v2 v3 v4 v5).heap[b]? = some (.cells #[v0, v1, v2, v3, v4, v5] t (0, 0)) := six_set h hs v0 v1 v2 v3 v4 v5
/-- block h holds the reference's peer -/
def RAt (w : World) (h : Nat) (p : RP) : Prop := w.heap[h]? = some (.cells #[.int .i64 p.most, .string (bs p.rest), .string (bs p.msg), .int .i64 p.op, .int .i64 p.code, .int .i64 p.echoed] 59 (0, 0))
def zeroP : Obj := .cells #[.int .i64 0, .string ⟨#[]⟩, .string ⟨#[]⟩, .int .i64 0, .int .i64 0, .int .i64 0] 59 (0, 0)
theorem RAt.cells {w : World} {h : Nat} {p : RP} (k : RAt w h p) : w.cell? ⟨h, 0, none⟩ = some (.int .i64 p.most) ∧ w.cell? ⟨h, 1, none⟩ = some (.string (bs p.rest)) ∧ w.cell? ⟨h, 2, none⟩ = some (.string (bs p.msg)) ∧ w.cell? ⟨h, 3, none⟩ = some (.int .i64 p.op) ∧ w.cell? ⟨h, 4, none⟩ = some (.int .i64 p.code) ∧ w.cell? ⟨h, 5, none⟩ = some (.int .i64 p.echoed) ∧ (∀ j, w.frozen? ⟨h, j, none⟩ = false) := six_cells k
theorem RAt.below {w x : World} {h : Nat} {p : RP} (k : RAt w h p) (hb : Below w.heap.size w x) : RAt x h p := (hb.block _ (hd_lt k)).trans k
/-- how the lengths stand at each round's head -/
structure RM (T : Nat) (p : RP) (out : List UInt8) : Prop where
  most : 0 ≤ p.most ∧ p.most ≤ 16777216
  msgs : p.msg.length ≤ 16777216
  sizo : out.length ≤ T + 8
  size : p.code = 0 → out.length + p.msg.length + p.rest.length ≤ T + slack p
theorem early_cases (p : RP) : earlyL p = 0 ∨ earlyL p = 1002 ∨ earlyL p = 1009 := by
  unfold earlyL
  split
  · exact .inr (.inl rfl)
  · split
    · exact .inr (.inl rfl)
    · split
      · exact .inr (.inr rfl)
      · exact .inl rfl
theorem early_code {p : RP} (h : earlyL p ≠ 0) : isCodeB (earlyL p) = true := by
  rcases early_cases p with e | e | e
  · exact absurd e h
  · rw [e]; decide
  · rw [e]; decide
theorem early_short {p : RP} (h : earlyL p = 0) : shortB p.rest = false := by
  unfold earlyL at h
  split at h
  · cases h
  · rename_i h1
    cases q : shortB p.rest
    · rfl
    · exact absurd (.inr (.inr q)) h1
theorem headOk_le' {s : List UInt8} (h : headOk s = true) : 2 ≤ s.length ∧ hsizeN (at1 s) ≤ s.length := by unfold headOk at h; simpa using h
/-- what Parse reads where a whole frame lies that the peer takes -/
theorem parse_pass {p : RP} (h : earlyL p = 0) (hok : headOk p.rest = true) (hm : p.most ≤ 16777216) (hl : ¬ p.rest.length < hsizeN (at1 p.rest) + lenN p.rest) :
    parseV (parseL p.rest 16777216) = .tuple #[.agg #[.bool (hiB (at0 p.rest)), .bool (hiB (at1 p.rest)), .int .i64 (opN p.rest), .string (bs (maskOf p.rest)), .string (bs (bodyL p.rest))], .int .i64 ((hsizeN (at1 p.rest) + lenN p.rest : Nat) : Int), .int .i64 0] := by
  have hg := early_good h
  have hs := hg.small hm
  have he : errN p.rest = 0 := by unfold errN; rw [if_neg (by rw [hg.wrong]; simp), early_short h]; rfl
  have hh := hg.len
  rw [parseL, if_neg (by decide), if_neg (by rw [hok]; simp), if_neg (by rw [he]; simp), if_neg, if_neg hl]
  · rfl
  · rintro ⟨_, h1 | h1⟩ <;> omega

theorem rfeed_stop (most cd ec op : Int) (RS MS s : ByteArray) (w : World) (h : most < 0 ∨ cd ≠ 0) :
    Calls Tryd.prog 49 #[.agg #[.int .i64 most, .string RS, .string MS, .int .i64 op, .int .i64 cd, .int .i64 ec], .string s] w fun e w' => e = .returned (.tuple #[.agg #[.int .i64 most, .string RS, .string MS, .int .i64 op, .int .i64 cd, .int .i64 ec], .string ⟨#[]⟩]) ∧ Below w.heap.size w w' := by
  have key : most < 0 ∨ (¬ most < 0 ∧ (cd != 0) = true) := by
    by_cases q : most < 0
    · exact .inl q
    · right; refine ⟨q, ?_⟩; rcases h with h | h; exact absurd h q; simpa using h
  clear h
  rcases key with q | ⟨q, e⟩
  all_goals
    go_enter Tryd.func49, Tryd.ntmps49
    go_wp2_with fail
    exact bodyPost_ret (v := .tuple #[.agg #[.int .i64 most, .string RS, .string MS, .int .i64 op, .int .i64 cd, .int .i64 ec], .string ⟨#[]⟩]) (by simp [results, Tryd.results49, go_sem]) rfl ⟨rfl, ((Below.refl _ _).alloc (Nat.le_refl _) _).alloc (by simp) _⟩

set_option maxHeartbeats 3000000 in
set_option maxRecDepth 100000 in
theorem rfeed_open (p : RP) (s : ByteArray) (w : World) (hc : p.code = 0) (hm : 0 ≤ p.most ∧ p.most ≤ 16777216) (hml : p.msg.length ≤ 16777216) (hs : p.msg.length + p.rest.length + s.size + 12 ≤ 140737488355328) :
    Calls Tryd.prog 49 #[rpV p, .string s] w fun e w' => e = .returned (rpRet (feedL p (bl s))) ∧ Below w.heap.size w w' := by
  have Hf := Lib.hid (show feedL p (bl s) = feedGo (p.rest.length + (bl s).length + 1) { p with rest := p.rest ++ bl s } [] by rw [feedL, if_neg (by simp [hc])])
  have M0 : RM (p.msg.length + p.rest.length + s.size) { p with rest := p.rest ++ bl s } [] := ⟨hm, hml, by simp, fun _ => by simp only [List.length_nil, List.length_append, bl_length]; omega⟩
  obtain ⟨F, hF⟩ : ∃ F, feedL p (bl s) = F := ⟨_, rfl⟩
  rw [hF] at Hf ⊢
  obtain ⟨most, rest, msg, po, cd, ec⟩ := p
  obtain ⟨RS, rfl⟩ : ∃ RS : ByteArray, rest = bl RS := ⟨bs rest, rfl⟩
  obtain ⟨MS, rfl⟩ : ∃ MS : ByteArray, msg = bl MS := ⟨bs msg, rfl⟩
  obtain rfl : cd = 0 := hc
  have hv : rpV ⟨most, bl RS, bl MS, po, 0, ec⟩ = .agg #[.int .i64 most, .string RS, .string MS, .int .i64 po, .int .i64 0, .int .i64 ec] := by unfold rpV; rw [bs_bl, bs_bl]
  rw [hv]
  simp only [bl_length] at hm hml hs
  simp only [bl_length] at Hf M0
  have hst : bl (RS ++ s) = bl RS ++ bl s := bl_append _ _
  have hstz : (RS ++ s).size ≤ 140737488355328 := by rw [ByteArray.size_append]; omega
  have hm0 : ¬ most < 0 := by omega
  have hrs : RS.size + s.size ≤ 140737488355328 := by omega
  have hk0 : RAt ((w.alloc (.cells #[.int .i64 most, .string (RS ++ s), .string MS, .int .i64 po, .int .i64 0, .int .i64 ec] 59)).alloc (.cells #[.int .i64 0, .string ⟨#[]⟩, .string ⟨#[]⟩, .int .i64 0, .int .i64 0, .int .i64 0] 59)) w.heap.size ⟨most, bl RS ++ bl s, bl MS, po, 0, ec⟩ := by
    unfold RAt
    simp only [← hst, bs_bl]
    rw [Below.heap_alloc _ _ _ (by simp)]; exact heap_alloc_new _ _
  have hz0 : ((w.alloc (.cells #[.int .i64 most, .string (RS ++ s), .string MS, .int .i64 po, .int .i64 0, .int .i64 ec] 59)).alloc (.cells #[.int .i64 0, .string ⟨#[]⟩, .string ⟨#[]⟩, .int .i64 0, .int .i64 0, .int .i64 0] 59)).heap[w.heap.size + 1]? = some zeroP := by
    have := heap_alloc_new (w.alloc (.cells #[.int .i64 most, .string (RS ++ s), .string MS, .int .i64 po, .int .i64 0, .int .i64 ec] 59)) (.cells #[.int .i64 0, .string ⟨#[]⟩, .string ⟨#[]⟩, .int .i64 0, .int .i64 0, .int .i64 0] 59)
    rw [show (w.alloc (.cells #[.int .i64 most, .string (RS ++ s), .string MS, .int .i64 po, .int .i64 0, .int .i64 ec] 59)).heap.size = w.heap.size + 1 by simp] at this
    exact this
  have hT47 : (MS.size + RS.size + s.size) + 12 ≤ 140737488355328 := by omega
  have Hfu := Lib.hid (show 1 ≤ RS.size + s.size + 1 ∧ ((⟨most, bl RS ++ bl s, bl MS, po, 0, ec⟩ : RP).code = 0 → (⟨most, bl RS ++ bl s, bl MS, po, 0, ec⟩ : RP).rest.length < RS.size + s.size + 1) from ⟨by omega, fun _ => by simp [bl_length]⟩)
  generalize (⟨most, bl RS ++ bl s, bl MS, po, 0, ec⟩ : RP) = P0 at *
  generalize MS.size + RS.size + s.size = T at *
  generalize RS.size + s.size + 1 = G at *
  have HM0 := Lib.hid M0
  have Hk0 := Lib.hid hk0
  have Hz0 := Lib.hid hz0
  clear M0 hF hv hst hk0 hz0 hm hml hs
  go_enter Tryd.func49, Tryd.ntmps49
  go_upto_block 0 with fail
  go_cut [6] (fun o wx => ∃ (P : RP) (out : List UInt8), o = .string (bs out) ∧ Hid (F = (P, out)) ∧ RAt wx w.heap.size P ∧ wx.heap[w.heap.size + 1]? = some zeroP ∧ Below w.heap.size w wx)
  case first =>
    have hB0 : Below w.heap.size w ((w.alloc (.cells #[.int .i64 most, .string (RS ++ s), .string MS, .int .i64 po, .int .i64 0, .int .i64 ec] 59)).alloc (.cells #[.int .i64 0, .string ⟨#[]⟩, .string ⟨#[]⟩, .int .i64 0, .int .i64 0, .int .i64 0] 59)) := ((Below.refl _ _).alloc (Nat.le_refl _) _).alloc (by simp) _
    obtain ⟨W, hW⟩ : ∃ W, (w.alloc (.cells #[.int .i64 most, .string (RS ++ s), .string MS, .int .i64 po, .int .i64 0, .int .i64 ec] 59)).alloc (.cells #[.int .i64 0, .string ⟨#[]⟩, .string ⟨#[]⟩, .int .i64 0, .int .i64 0, .int .i64 0] 59) = W := ⟨_, rfl⟩
    rw [hW] at hB0 Hk0 Hz0 ⊢
    have HB0 := Lib.hid hB0
    clear hW hB0
    go_wp2_with fail
    go_loopg [6] G (fun gk o wr => ∃ (P : RP) (out : List UInt8), o = .string (bs out) ∧ Hid (feedGo gk P out = F) ∧ Hid (RAt wr w.heap.size P) ∧ Hid (wr.heap[w.heap.size + 1]? = some zeroP) ∧ Hid (Below w.heap.size w wr) ∧ Hid (RM T P out) ∧ Hid (1 ≤ gk ∧ (P.code = 0 → P.rest.length < gk)))
    case atStart => exact ⟨P0, [], rfl, Lib.hid Hf.out.symm, Hk0, Hz0, HB0, HM0, Hfu⟩
    case round =>
      obtain ⟨P, out, rfl, HFG, Hk, Hz, HB, HM, Hgk⟩ := hrel
      clear HM0 Hk0 Hz0 HB0 Hf Hfu
      obtain ⟨k, rfl⟩ : ∃ k, gk = k + 1 := ⟨gk - 1, by have := Hgk.out.1; omega⟩
      have hsize := HM.out.sizo
      obtain ⟨c0, c1, c2, c3, c4, c5, cf⟩ := Hk.out.cells
      have hhlt := hd_lt Hk.out
      by_cases hc : P.code = 0
      case neg =>
        have e1 : (P.code == 0) = false := by simpa using hc
        have HFe := Lib.hid (show F = (P, out) by rw [← HFG.out, feedGo_closed hc])
        clear hc
        go_wp2_with fail
        go_meet
        exact ⟨P, out, rfl, HFe, Hk.out, Hz.out, HB.out⟩
      have e1 : (P.code == 0) = true := by simpa using hc
      have hsz := HM.out.size hc
      have hrl : P.rest.length ≤ 140737488355328 := by have := slack_le P; omega
      have hH := fun wx => rhead_any (bs P.rest) wx (by rw [bs_size]; omega)
      rw [show bl (bs P.rest) = P.rest from rfl] at hH
      have Hc := Lib.hid hc
      have Hsz := Lib.hid hsz
      clear hc hsz
      by_cases hok : headOk P.rest = true
      case neg =>
        have hok' : headOk P.rest = false := by simpa using hok
        have HFe := Lib.hid (show F = (P, out) by rw [← HFG.out, feedGo_short Hc.out hok'])
        rw [rheadV, hok', if_neg (by simp)] at hH
        clear hok hok'
        go_wp2_with (first | (go_at_call 56; refine (hH _).mono ?_; rintro e w2 ⟨rfl, rfl⟩))
        go_meet
        exact ⟨P, out, rfl, HFe, Hk.out, Hz.out, HB.out⟩
      rw [rheadV, hok, if_pos rfl] at hH
      have Hok := Lib.hid hok
      have hz2 := hsizeN_le (at1 P.rest)
      have h2r := (headOk_le' hok).1
      have hzr := (headOk_le' hok).2
      have hEa := fun wx => rearly_any P (rlenI P.rest) (!shortB P.rest) wx rfl rfl h2r HM.out.most.1 HM.out.most.2 (by have := HM.out.msgs; omega)
      unfold rpV at hEa
      have Hgd := Lib.hid (fun (h : earlyL P = 0) => early_good h)
      have Hsh := Lib.hid (fun (h : earlyL P = 0) => early_short h)
      have Hstep := Lib.hid (fun (h1 : Pass P) (h2 : hsizeN (at1 P.rest) + lenN P.rest ≤ P.rest.length) => take_size Hc.out h1 HM.out.most.2 HM.out.msgs h2 Hsz.out)
      have Ha := Lib.hid (fun (h : earlyL P ≠ 0) => feedGo_early (k := k) (out := out) Hc.out hok h)
      have Hw := Lib.hid (fun (h : earlyL P = 0) (h4 : P.rest.length < hsizeN (at1 P.rest) + lenN P.rest) => feedGo_wait (k := k) (out := out) Hc.out hok h h4)
      have Ht := Lib.hid (fun (h : earlyL P = 0) (h4 : ¬ P.rest.length < hsizeN (at1 P.rest) + lenN P.rest) => feedGo_take (k := k) (out := out) Hc.out hok h h4)
      have Hpp := Lib.hid (fun (h : earlyL P = 0) (h4 : ¬ P.rest.length < hsizeN (at1 P.rest) + lenN P.rest) => parse_pass h hok HM.out.most.2 h4)
      have hrI : rlenI P.rest = if half ≤ lenN P.rest then -1 else (lenN P.rest : Int) := rfl
      have hrz : (bs P.rest).size = P.rest.length := bs_size _
      obtain ⟨n, hn⟩ : ∃ n, rlenI P.rest = n := ⟨_, rfl⟩
      obtain ⟨z, hz⟩ : ∃ z, hsizeN (at1 P.rest) = z := ⟨_, rfl⟩
      simp only [hn] at hrI hH hEa
      rw [hz] at hz2 hzr
      simp only [hz] at hH
      obtain ⟨SB, hSB⟩ : ∃ SB, (!shortB P.rest) = SB := ⟨_, rfl⟩
      simp only [hSB] at hH hEa
      have HrI := Lib.hid hrI
      have Hrz := Lib.hid hrz
      have Hz' := Lib.hid hz
      have ez : ((z : Int) == 0) = false := by simp; omega
      clear hok hn hz hSB hrI hrz
      by_cases he : earlyL P = 0
      case neg =>
        have HFe := Lib.hid (show F = ((closingL P (earlyL P)).1, out ++ (closingL P (earlyL P)).2) by rw [← HFG.out, Ha.out he])
        have hcl := fun wx => rclosing' P.most P.op P.code P.echoed (bs P.rest) (bs P.msg) (earlyL P) wx (.inr (early_code he))
        have HCS := Lib.hid (show bl (closeS (earlyL P)) = (closingL P (earlyL P)).2 from rfl)
        have hcsz : (closeS (earlyL P)).size ≤ 4 := by rw [← bl_length]; exact closingL_len P (earlyL P)
        have HC1 := Lib.hid (show (closingL P (earlyL P)).1 = { P with code := earlyL P, rest := [], msg := [] } from rfl)
        have ee : (earlyL P != 0) = true := by simpa using he
        have hosz : (bs out).size ≤ T + 8 := by rw [bs_size]; exact hsize
        generalize closingL P (earlyL P) = CP at *
        generalize closeS (earlyL P) = CS at *
        generalize earlyL P = EC at *
        clear he Ha Hw Ht Hgd Hsh Hstep Hpp
        go_wp2_with (first | (go_at_call 56; refine (hH _).mono ?_; rintro e w2 ⟨rfl, rfl⟩) | (go_at_call 59; refine (hEa _).mono ?_; rintro e w3 ⟨rfl, hb3⟩; have hk3 := Hk.out.below hb3; obtain ⟨d0, d1, d2, d3, d4, d5, df⟩ := hk3.cells) | (go_at_call 60; refine (hcl _).mono ?_; rintro e w4 ⟨rfl, hb4⟩; have hk4 := hk3.below hb4; obtain ⟨g0, g1, g2, g3, g4, g5, gf⟩ := hk4.cells))
        go_meet
        have hzz := ((hb4.block _ (Nat.lt_of_lt_of_le (hd_lt Hz.out) hb3.size)).trans (hb3.block _ (hd_lt Hz.out))).trans Hz.out
        have hBB := (HB.out.trans (hb3.mono HB.out.size)).trans (hb4.mono (Nat.le_trans HB.out.size hb3.size))
        refine ⟨CP.1, out ++ CP.2, ?_, HFe, ?_, (sixW_other (by omega) _ _ _ _ _ _).trans hzz, sixW_below hBB (Nat.le_refl _) _ _ _ _ _ _⟩
        · rw [← bs_append, ← HCS.out, bs_bl]
        · rw [HC1.out]; exact sixW_same hk4 rfl _ _ _ _ _ _
      have ee : (earlyL P != 0) = false := by simpa using he
      have hg := Hgd.out he
      have hsm := hg.small HM.out.most.2
      have hnL : n = (lenN P.rest : Int) := by rw [HrI.out, if_neg (by have := hg.len; omega)]
      obtain ⟨L, hL⟩ : ∃ L, lenN P.rest = L := ⟨_, rfl⟩
      rw [hL] at hnL hsm
      subst hnL
      have HL := Lib.hid hL
      have hWt := Hw.out he
      have hTk := Ht.out he
      have hSt := Hstep.out hg
      have hPp := Hpp.out he
      rw [hL, Hz'.out] at hWt hTk hSt hPp
      have HWt := Lib.hid hWt
      have HTk := Lib.hid hTk
      have HSt := Lib.hid hSt
      have HPp := Lib.hid hPp
      generalize earlyL P = EC at *
      have hrs2 : (bs P.rest).size ≤ 140737488355328 := by rw [Hrz.out]; exact hrl
      clear he hg hL hWt hTk hSt hPp Ha Hw Ht Hgd Hsh Hstep Hpp HrI
      by_cases hlt : P.rest.length < z + L
      · have HFe := Lib.hid (show F = (P, out) by rw [← HFG.out]; exact HWt.out hlt)
        have d1 : ((bs P.rest).size : Int) - (z : Int) < (L : Int) := by rw [Hrz.out]; omega
        clear hlt
        go_wp2_with (first | (go_at_call 56; refine (hH _).mono ?_; rintro e w2 ⟨rfl, rfl⟩) | (go_at_call 59; refine (hEa _).mono ?_; rintro e w3 ⟨rfl, hb3⟩; have hk3 := Hk.out.below hb3; obtain ⟨d0, d1, d2, d3, d4, d5, df⟩ := hk3.cells))
        go_meet
        exact ⟨P, out, rfl, HFe, hk3, (hb3.block _ (hd_lt Hz.out)).trans Hz.out, HB.out.trans (hb3.mono HB.out.size)⟩
      have d1 : ¬ ((bs P.rest).size : Int) - (z : Int) < (L : Int) := by rw [Hrz.out]; omega
      have hPa : ∀ wx, Calls Tryd.prog 33 #[.string (bs P.rest), .int .i64 16777216] wx fun e w' => e = .returned (.tuple #[.agg #[.bool (hiB (at0 P.rest)), .bool (hiB (at1 P.rest)), .int .i64 (opN P.rest), .string (bs (maskOf P.rest)), .string (bs (bodyL P.rest))], .int .i64 ((z + L : Nat) : Int), .int .i64 0]) ∧ Below wx.heap.size wx w' := fun wx => by
        have := rparse_any (bs P.rest) 16777216 wx (by rw [bs_size]; exact hrl)
        rw [show bl (bs P.rest) = P.rest from rfl, HPp.out hlt] at this
        exact this
      have hfl : z + L ≤ P.rest.length := by omega
      obtain ⟨P', ans, hTL⟩ : ∃ P' ans, takeL { P with rest := P.rest.drop (z + L) } (hiB (at0 P.rest)) (opN P.rest) (bodyL P.rest) = (P', ans) := ⟨_, _, rfl⟩
      have hSz := HSt.out hfl P' ans hTL
      have hFk : feedGo k P' (out ++ ans) = F := by rw [← HFG.out, HTk.out hlt, hTL]
      have hkk : 1 ≤ k ∧ (P'.code = 0 → P'.rest.length < k) := by
        have h1 := Hgk.out.2 Hc.out
        exact ⟨by omega, fun h => by have := (hSz.2.2.2 h).2; omega⟩
      have hbz : (bodyL P.rest).length ≤ 16777216 := by
        have := bodyL_len (s := P.rest) (by rw [Hz'.out, HL.out]; exact hfl)
        rw [this, HL.out]; exact hsm
      have hEx : ((bs P.rest).extract (z + L) (bs P.rest).size) = bs (P.rest.drop (z + L)) := by
        apply bl_inj; rw [bl_extract, bl_bs, bl_bs, bs_size, List.take_of_length_le (by rw [List.length_drop]; omega)]
      have hTa := fun wx => rtake_any { P with rest := P.rest.drop (z + L) } (hiB (at0 P.rest)) (hiB (at1 P.rest)) (opN P.rest) (bs (maskOf P.rest)) (bs (bodyL P.rest)) wx (by rw [bs_size]; have := HM.out.msgs; show P.msg.length + _ ≤ _; omega)
      rw [show bl (bs (bodyL P.rest)) = bodyL P.rest from rfl, hTL] at hTa
      unfold rpRet rpV at hTa
      simp only at hTa
      have HSz := Lib.hid hSz
      have HFk := Lib.hid hFk
      have Hkk := Lib.hid hkk
      have hasz : (bs ans).size + (bs out).size ≤ 140737488355328 := by rw [bs_size, bs_size]; have := hSz.2.2.1; omega
      generalize bs (bodyL P.rest) = BD at *
      generalize bs (maskOf P.rest) = MK at *
      generalize hiB (at0 P.rest) = fB at *
      generalize hiB (at1 P.rest) = mB at *
      generalize opN P.rest = OP at *
      obtain ⟨R', hR'⟩ : ∃ R', bs (P.rest.drop (z + L)) = R' := ⟨_, rfl⟩
      rw [hR'] at hEx hTa
      have hub : ((z + L : Nat) : Int) ≤ ((bs P.rest).size : Int) := by rw [Hrz.out]; omega
      have Hlt := Lib.hid hlt
      have HR' := Lib.hid hR'
      clear hlt hTL hSz hFk hkk hfl hbz hR'
      go_upto_region 15 with (first | (go_at_call 56; refine (hH _).mono ?_; rintro e w2 ⟨rfl, rfl⟩) | (go_at_call 59; refine (hEa _).mono ?_; rintro e w3 ⟨rfl, hb3⟩; have hk3 := Hk.out.below hb3; obtain ⟨d0, d1, d2, d3, d4, d5, df⟩ := hk3.cells) | (go_at_call 33; refine (hPa _).mono ?_; rintro e w4 ⟨rfl, hb4⟩; have hk4 := hk3.below hb4; obtain ⟨g0, g1, g2, g3, g4, g5, gf⟩ := hk4.cells))
      obtain ⟨W, hW⟩ : ∃ W, w4.alloc (.cells #[.bool fB, .bool mB, .int .i64 OP, .string MK, .string BD] 30) = W := ⟨_, rfl⟩
      have hWb : Below w4.heap.size w4 W := by rw [← hW]; exact (Below.refl _ _).alloc (Nat.le_refl _) _
      have hkW : RAt W w.heap.size P := hk4.below hWb
      have hzW : W.heap[w.heap.size + 1]? = some zeroP := by
        have h3 := (hb3.block _ (hd_lt Hz.out)).trans Hz.out
        have h4 := (hb4.block _ (hd_lt h3)).trans h3
        exact (hWb.block _ (hd_lt h4)).trans h4
      have hBW : Below w.heap.size w W := ((HB.out.trans (hb3.mono HB.out.size)).trans (hb4.mono (Nat.le_trans HB.out.size hb3.size))).trans (hWb.mono (Nat.le_trans (Nat.le_trans HB.out.size hb3.size) hb4.size))
      have hfW : W.heap[w4.heap.size]? = some (.cells #[.bool fB, .bool mB, .int .i64 OP, .string MK, .string BD] 30 (0, 0)) := by rw [← hW]; exact heap_alloc_new _ _
      have hlt4 := hd_lt hk4
      rw [hW]
      clear hW hWb d0 d1 d2 d3 d4 d5 df g0 g1 g2 g3 g4 g5 gf hk3 hk4 hb3 hb4 hH hEa hPa c0 c1 c2 c3 c4 c5 cf
      obtain ⟨c0, c1, c2, c3, c4, c5, cf⟩ := hkW.cells
      have b0 : (0 : Int) ≤ (z : Int) + (L : Int) := by omega
      have b1 : (z : Int) + (L : Int) ≤ ((bs P.rest).size : Int) := by omega
      have b3 : ((z : Int) + (L : Int)).toNat = z + L := by omega
      go_upto_region 16 with fail
      obtain ⟨X, hX⟩ : ∃ X, W.setCell ⟨w.heap.size, 1, none⟩ (.string R') = X := ⟨_, rfl⟩
      have hXk : RAt X w.heap.size { P with rest := P.rest.drop (z + L) } := by
        unfold RAt; simp only; rw [HR'.out, ← hX]; exact hd_set hkW 1 _
      have hXz : X.heap[w.heap.size + 1]? = some zeroP := by rw [← hX]; exact (Below.heap_setCell _ _ _ _ (by simp)).trans hzW
      have hXf : X.heap[w4.heap.size]? = some (.cells #[.bool fB, .bool mB, .int .i64 OP, .string MK, .string BD] 30 (0, 0)) := by rw [← hX]; exact (Below.heap_setCell _ _ _ _ (by simp; omega)).trans hfW
      have hXB : Below w.heap.size w X := by rw [← hX]; exact below_set hBW (Nat.le_refl _) _ _
      rw [hX]
      clear hX hkW hzW hBW hfW c0 c1 c2 c3 c4 c5 cf b0 b1 b3 hub hEx
      obtain ⟨c0, c1, c2, c3, c4, c5, cf⟩ := hXk.cells
      simp only [HR'.out] at c1
      obtain ⟨f0, f1, f2, f3, f4, ff⟩ := five_cells hXf
      go_wp2_with (first | (go_at_call 61; refine (hTa _).mono ?_; rintro e w5 ⟨rfl, hb5⟩; have hk5 := hXk.below hb5; obtain ⟨d0, d1, d2, d3, d4, d5, df⟩ := hk5.cells))
      go_roundg k
      case measure => exact Nat.lt_succ_self k
      refine ⟨P', out ++ ans, by rw [← bs_append], HFk, ?_, ?_, ?_, ?_, Hkk⟩
      · exact Lib.hid (sixW_same hk5 rfl _ _ _ _ _ _)
      · exact Lib.hid ((sixW_other (by omega) _ _ _ _ _ _).trans ((hb5.block _ (hd_lt hXz)).trans hXz))
      · exact Lib.hid (sixW_below (hXB.trans (hb5.mono hXB.size)) (Nat.le_refl _) _ _ _ _ _ _)
      · refine Lib.hid ⟨?_, HSz.out.2.1, ?_, ?_⟩
        · rw [HSz.out.1]; exact HM.out.most
        · rw [List.length_append]; exact HSz.out.2.2.1
        · intro h; rw [List.length_append]; exact (HSz.out.2.2.2 h).1
  case rest =>
  obtain ⟨P, out, rfl, HFe, hk, hz, hB⟩ := hcut
  obtain ⟨c0, c1, c2, c3, c4, c5, cf⟩ := hk.cells
  unfold zeroP at hz
  obtain ⟨d0, d1, d2, d3, d4, d5, df⟩ := six_cells hz
  have HQ := Lib.hid (show rpRet F = .tuple #[.agg #[.int .i64 P.most, .string (bs P.rest), .string (bs P.msg), .int .i64 P.op, .int .i64 P.code, .int .i64 P.echoed], .string (bs out)] by rw [HFe.out]; rfl)
  go_wp2_with fail
  have hb9 := sixW_same hz rfl (.int .i64 P.most) (.string (bs P.rest)) (.string (bs P.msg)) (.int .i64 P.op) (.int .i64 P.code) (.int .i64 P.echoed)
  have hB9 := sixW_below hB (show w.heap.size ≤ w.heap.size + 1 by omega) (.int .i64 P.most) (.string (bs P.rest)) (.string (bs P.msg)) (.int .i64 P.op) (.int .i64 P.code) (.int .i64 P.echoed)
  obtain ⟨W9, hW9⟩ : ∃ W9, sixW wc (w.heap.size + 1) (.int .i64 P.most) (.string (bs P.rest)) (.string (bs P.msg)) (.int .i64 P.op) (.int .i64 P.code) (.int .i64 P.echoed) = W9 := ⟨_, rfl⟩
  rw [hW9] at hb9 hB9
  unfold sixW at hW9
  rw [hW9]
  obtain ⟨r0, r1, r2, r3, r4, r5, -⟩ := six_cells hb9
  exact bodyPost_ret (v := .tuple #[.agg #[.int .i64 P.most, .string (bs P.rest), .string (bs P.msg), .int .i64 P.op, .int .i64 P.code, .int .i64 P.echoed], .string (bs out)]) (by simp [results, Tryd.results49, go_sem, r0, r1, r2, r3, r4, r5]) rfl ⟨by rw [HQ.out], hB9⟩

theorem rfeed_any (p : RP) (s : ByteArray) (w : World) (hm : 0 ≤ p.most ∧ p.most ≤ 16777216) (hml : p.msg.length ≤ 16777216) (hs : p.msg.length + p.rest.length + s.size + 12 ≤ 140737488355328) :
    Calls Tryd.prog 49 #[rpV p, .string s] w fun e w' => e = .returned (rpRet (feedL p (bl s))) ∧ Below w.heap.size w w' := by
  by_cases hc : p.code = 0
  · exact rfeed_open p s w hc hm hml hs
  · have := rfeed_stop p.most p.code p.echoed p.op (bs p.rest) (bs p.msg) s w (.inr hc)
    have e : rpRet (feedL p (bl s)) = .tuple #[rpV p, .string ⟨#[]⟩] := by rw [feedL, if_pos hc]; rfl
    rw [e]; exact this
theorem rfeed_nil (s : ByteArray) (w : World) :
    Calls Tryd.prog 49 #[rpV nilL, .string s] w fun e w' => e = .returned (.tuple #[rpV nilL, .string ⟨#[]⟩]) ∧ Below w.heap.size w w' :=
  rfeed_stop (-1) 0 0 0 (bs []) (bs []) s w (.inl (by decide))

set_option maxHeartbeats 1000000 in
set_option maxRecDepth 100000 in
theorem rwhole_any (most : Int) (s : ByteArray) (w : World) (hs : s.size + 12 ≤ 140737488355328) :
    Calls Tryd.prog 27 #[.int .i64 most, .string s] w fun e w' => e = .returned (.tuple #[.string (bs (wholeL most (bl s)).1), .bool (wholeL most (bl s)).2]) ∧ Below w.heap.size w w' := by
  by_cases hm : most < 0 ∨ 16777216 < most
  · have hN := fun wx => rnew_bad most wx hm
    have Hf := Lib.hid (show wholeL most (bl s) = ([], false) by rw [wholeL, if_pos hm])
    unfold rpV nilL at hN
    clear hm
    go_enter Tryd.func27, Tryd.ntmps27
    go_wp2_with (first | (go_at_call 48; refine (hN _).mono ?_; rintro e w1 ⟨rfl, hb1⟩))
    go_ret2
    exact ⟨by rw [Hf.out]; rfl, hb1.alloc hb1.size _⟩
  · have hN := fun wx => rnew_ok most wx (by omega) (by omega)
    have Hf := Lib.hid (show wholeL most (bl s) = ((feedL (newL most) (bl s)).2, (feedL (newL most) (bl s)).1.code != 0) by rw [wholeL, if_neg hm])
    have hF := fun wx => rfeed_any (newL most) s wx ⟨by show 0 ≤ most; omega, by show most ≤ 16777216; omega⟩ (by show 0 ≤ _; omega) (by show 0 + 0 + s.size + 12 ≤ _; omega)
    unfold rpRet at hF
    generalize feedL (newL most) (bl s) = F at *
    obtain ⟨F1, F2⟩ := F
    simp only at hF Hf
    unfold rpV newL at hN hF
    simp only at hN hF
    generalize hS : bs F2 = S2 at *
    have HS := Lib.hid hS
    clear hm hS
    go_enter Tryd.func27, Tryd.ntmps27
    go_upto_region 5 with (first | (go_at_call 48; refine (hN _).mono ?_; rintro e w1 ⟨rfl, hb1⟩) | (go_at_call 49; refine (hF _).mono ?_; rintro e w2 ⟨rfl, hb2⟩; have hk2 := (hb2.block _ (by simp)).trans (heap_alloc_new _ _); obtain ⟨d0, d1, d2, d3, d4, d5, df⟩ := six_cells hk2))
    have hBB := (hb1.alloc hb1.size (.cells #[.int .i64 most, .string (bs []), .string (bs []), .int .i64 0, .int .i64 0, .int .i64 0] 59)).trans (hb2.mono (by simp; have := hb1.size; omega))
    have h6 := sixW_below hBB hb1.size (.int .i64 F1.most) (.string (bs F1.rest)) (.string (bs F1.msg)) (.int .i64 F1.op) (.int .i64 F1.code) (.int .i64 F1.echoed)
    have k6 := sixW_same hk2 rfl (.int .i64 F1.most) (.string (bs F1.rest)) (.string (bs F1.msg)) (.int .i64 F1.op) (.int .i64 F1.code) (.int .i64 F1.echoed)
    obtain ⟨W9, hW9⟩ : ∃ W9, sixW w2 w1.heap.size (.int .i64 F1.most) (.string (bs F1.rest)) (.string (bs F1.msg)) (.int .i64 F1.op) (.int .i64 F1.code) (.int .i64 F1.echoed) = W9 := ⟨_, rfl⟩
    rw [hW9] at h6 k6
    unfold sixW at hW9
    rw [hW9]
    clear hW9 hBB hk2 d0 d1 d2 d3 d4 d5 df hb2
    obtain ⟨r0, r1, r2, r3, r4, r5, -⟩ := six_cells k6
    go_quiet (fail)
    go_wp2_with fail
    go_ret2
    exact ⟨by rw [Hf.out, HS.out]; rfl, h6.trans (drewN_below _ _ _)⟩
end Go.Proofs.YtmgfpjfamdbhbaaDoor
