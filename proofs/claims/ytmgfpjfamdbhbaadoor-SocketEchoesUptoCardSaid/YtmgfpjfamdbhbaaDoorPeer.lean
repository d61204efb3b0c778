/- A peer: what it is, what it says, as plain functions; and where it lies in memory. -/
import Derived.Test.YtmgfpjfamdbhbaaDoorWrite
import Derived.Test.YtmgfpjfamdbhbaaDoorRHead
namespace Go.Proofs.YtmgfpjfamdbhbaaDoor
open Go.RowKit

/-- a peer, as the document has it -/
structure RP where
  most : Int
  rest : List UInt8
  msg : List UInt8
  op : Int
  code : Int
  echoed : Int

def sayL (op : Int) (body : List UInt8) : List UInt8 := (printL true false op [] body).1
def closingL (p : RP) (code : Int) : RP × List UInt8 :=
  ({ p with code := code, rest := [], msg := [] }, sayL 8 (if code = 1005 then [] else (closeL code []).1))
def earlyL (p : RP) : Int :=
  if wrongN p.rest ≠ 0 ∨ hiB (at1 p.rest) = false ∨ shortB p.rest = true then 1002
  else if (opN p.rest = 0 ∧ p.op = 0) ∨ ((opN p.rest = 1 ∨ opN p.rest = 2) ∧ p.op ≠ 0) then 1002
  else if opN p.rest < 8 ∧ (half ≤ lenN p.rest ∨ p.most - p.msg.length < lenN p.rest) then 1009 else 0
def takeL (p : RP) (fin : Bool) (op : Int) (body : List UInt8) : RP × List UInt8 :=
  if op = 9 then (p, sayL 10 body)
  else if op = 10 then (p, [])
  else if op = 8 then
    (if (parseCloseL body).2.2 = 0 then closingL p (parseCloseL body).1 else if (parseCloseL body).2.2 = 223 then closingL p 1007 else closingL p 1002)
  else if fin = false then ({ p with op := if op = 0 then p.op else op, msg := p.msg ++ body }, [])
  else if (if op = 0 then p.op else op) = 1 ∧ Lib.validD (p.msg ++ body) = false then closingL { p with op := if op = 0 then p.op else op, msg := p.msg ++ body } 1007
  else ({ p with op := 0, msg := [], echoed := wrap64 (p.echoed + 1) }, sayL (if op = 0 then p.op else op) (p.msg ++ body))
/-- the body of the frame that a text begins with -/
def bodyL (s : List UInt8) : List UInt8 := maskL ((s.drop (hsizeN (at1 s))).take (lenN s)) (maskOf s)
def feedGo : Nat → RP → List UInt8 → RP × List UInt8
  | 0, p, out => (p, out)
  | k + 1, p, out =>
    if p.code ≠ 0 then (p, out)
    else if headOk p.rest = false then (p, out)
    else if earlyL p ≠ 0 then ((closingL p (earlyL p)).1, out ++ (closingL p (earlyL p)).2)
    else if p.rest.length < hsizeN (at1 p.rest) + lenN p.rest then (p, out)
    else feedGo k (takeL { p with rest := p.rest.drop (hsizeN (at1 p.rest) + lenN p.rest) } (hiB (at0 p.rest)) (opN p.rest) (bodyL p.rest)).1
      (out ++ (takeL { p with rest := p.rest.drop (hsizeN (at1 p.rest) + lenN p.rest) } (hiB (at0 p.rest)) (opN p.rest) (bodyL p.rest)).2)
def feedL (p : RP) (s : List UInt8) : RP × List UInt8 :=
  if p.code ≠ 0 then (p, []) else feedGo (p.rest.length + s.length + 1) { p with rest := p.rest ++ s } []

/-- block b is the program's peer p, whose message lies in the slice v -/
def PeerAt (w : World) (base b : Nat) (p : RP) (v : Value) : Prop :=
  base ≤ b ∧ (∃ (op : Bool) (o : Int), w.heap[b]? = some (.cells #[.int .i64 p.most, .string (bs p.rest), .bool op, .int .i64 o, v, .int .i64 p.code, .int .i64 p.echoed] 85 (0, 0)) ∧
    (p.code = 0 → op = decide (p.op ≠ 0) ∧ (p.op ≠ 0 → o = p.op))) ∧ RowV w base v p.msg ∧ v.ownBlock ≠ some b

/-- what a method of the peer leaves -/
def Left (w w' : World) (base b : Nat) (p : RP) (v v' : Value) : Prop :=
  PeerAt w' base b p v' ∧ Touch w w' (Own b v) ∧ (v'.ownBlock = none ∨ v'.ownBlock = v.ownBlock ∨ ∀ g, v'.ownBlock = some g → w.heap.size ≤ g)

theorem sayL_eq (op : Int) (body : ByteArray) : (printL true false op (bl (bs [])) (bl body)).1 = sayL op (bl body) := rfl

set_option maxHeartbeats 1000000 in
set_option maxRecDepth 100000 in
theorem say_any (op : Int) (body : ByteArray) (w : World) (hb : body.size ≤ 281474976710656) :
    Calls Tryd.prog 63 #[.int .i64 op, .string body] w fun e w' => e = .returned (.string (bs (sayL op (bl body)))) ∧ Below w.heap.size w w' := by
  have hP : Calls Tryd.prog 15 #[.agg #[.bool true, .bool false, .int .i64 op, .string ⟨#[]⟩, .string body]] w fun e w' =>
      e = .returned (.tuple #[.string (bs (sayL op (bl body))), .int .i64 (printL true false op [] (bl body)).2]) ∧ Below w.heap.size w w' := print_any true false op ⟨#[]⟩ body w hb (by decide)
  generalize bs (sayL op (bl body)) = S at *
  generalize (printL true false op [] (bl body)).2 = E at *
  go_enter Tryd.func63, Tryd.ntmps63
  go_wp2_with (go_at_call 15; refine hP.mono ?_; rintro e w' ⟨rfl, hbw⟩)
  go_ret
  exact ⟨rfl, hbw⟩

set_option maxHeartbeats 1000000 in
set_option maxRecDepth 100000 in
theorem shut_any (base b : Nat) (p : RP) (v : Value) (code : Int) (w : World) (h : PeerAt w base b p v) (hT : Tabs w) (hbase : 2 ≤ base) (_hsz : base ≤ w.heap.size) (hc : code ≠ 0) :
    Calls Tryd.prog 53 #[.pointer (some ⟨b, 0, none⟩), .int .i64 code] w fun e w' => e = .returned (.string (bs (closingL p code).2)) ∧ Left w w' base b (closingL p code).1 v (.slice none 0 0) := by
  obtain ⟨hB, ⟨op, o, hbk, hopn⟩, hown, hne⟩ := h
  have hlt := lt_of hbk
  have c0 := cell_of hbk 0
  have c1 := cell_of hbk 1
  have c2 := cell_of hbk 2
  have c3 := cell_of hbk 3
  have c4 := cell_of hbk 4
  have c5 := cell_of hbk 5
  have f := frozen_of hbk
  simp only [List.getElem?_toArray, List.getElem?_cons_zero, List.getElem?_cons_succ] at c0 c1 c2 c3 c4 c5
  have fin : ∀ w5, Below (w.heap.size) ((((w.setCell ⟨b, 5, none⟩ (.int .i64 code)).setCell ⟨b, 1, none⟩ (.string ⟨#[]⟩)).setCell ⟨b, 4, none⟩ (.slice none 0 0)).setCell ⟨b, 2, none⟩ (.bool false)) w5 →
      Left w w5 base b (closingL p code).1 v (.slice none 0 0) := by
    intro w5 hb5
    have hW : ((((w.setCell ⟨b, 5, none⟩ (.int .i64 code)).setCell ⟨b, 1, none⟩ (.string ⟨#[]⟩)).setCell ⟨b, 4, none⟩ (.slice none 0 0)).setCell ⟨b, 2, none⟩ (.bool false)).heap[b]? =
      some (.cells #[.int .i64 p.most, .string (bs []), .bool false, .int .i64 o, .slice none 0 0, .int .i64 code, .int .i64 p.echoed] 85 (0, 0)) :=
      heap_set (heap_set (heap_set (heap_set hbk 5 _) 1 _) 4 _) 2 _
    refine ⟨⟨hB, ⟨false, o, by rw [hb5.block b hlt]; exact hW, fun h => absurd h hc⟩, RowV.nil _ _, by simp [Value.ownBlock]⟩, ?_, .inl rfl⟩
    exact (((((Touch.refl _ _).setCell (p := ⟨b, 5, none⟩) (.inl (.inl rfl)) _).setCell (p := ⟨b, 1, none⟩) (.inl (.inl rfl)) _).setCell (p := ⟨b, 4, none⟩) (.inl (.inl rfl)) _).setCell (p := ⟨b, 2, none⟩) (.inl (.inl rfl)) _).below hb5 (by simp)
  have tab : ∀ w5, Below base w w5 → Tabs w5 := fun w5 h5 => hT.below hbase h5
  have hclo : (closeL code []).1.length ≤ 2 := by
    unfold closeL
    split
    · simp
    · split
      · simp
      · split
        · simp
        · simp [highL, highTo_length]
  by_cases h5 : code = 1005
  · have e5 : (code != 1005) = false := by simp [h5]
    have hS := fun wx => say_any 8 ⟨#[]⟩ wx (by decide)
    have Hs := Lib.hid (show (closingL p code).2 = sayL 8 (bl ⟨#[]⟩) by rw [closingL, if_pos h5]; rfl)
    generalize sayL 8 (bl ⟨#[]⟩) = S at *
    clear h5 tab hT hclo
    go_enter Tryd.func53, Tryd.ntmps53
    go_wp2_with (first | (go_at_call 63; refine (hS _).mono ?_; rintro e w5 ⟨rfl, hb5⟩))
    go_ret
    exact ⟨by rw [Hs.out]; rfl, fin _ (by simpa using hb5)⟩
  · have e5 : (code != 1005) = true := by simpa using h5
    have hPC := fun wx hTx => printClose_any code ⟨#[]⟩ wx (by decide) hTx
    have hS := fun wx => say_any 8 (bs (closeL code []).1) wx (by rw [bs_size]; omega)
    have Hs := Lib.hid (show (closingL p code).2 = sayL 8 (bl (bs (closeL code []).1)) by rw [closingL, if_neg h5]; rfl)
    have hbe : bl ⟨#[]⟩ = [] := rfl
    rw [hbe] at hPC
    generalize sayL 8 (bl (bs (closeL code []).1)) = S at *
    generalize bs (closeL code []).1 = Q at *
    generalize (closeL code []).2 = E at *
    have hTW := tab ((((w.setCell ⟨b, 5, none⟩ (.int .i64 code)).setCell ⟨b, 1, none⟩ (.string ⟨#[]⟩)).setCell ⟨b, 4, none⟩ (.slice none 0 0)).setCell ⟨b, 2, none⟩ (.bool false))
      (((((Below.refl _ _).setCell (p := ⟨b, 5, none⟩) hB _).setCell (p := ⟨b, 1, none⟩) hB _).setCell (p := ⟨b, 4, none⟩) hB _).setCell (p := ⟨b, 2, none⟩) hB _)
    clear h5 hclo tab hT
    go_enter Tryd.func53, Tryd.ntmps53
    go_wp2_with (first | (go_at_call 22; refine (hPC _ hTW).mono ?_; rintro e w4 ⟨rfl, hb4⟩) | (go_at_call 63; refine (hS _).mono ?_; rintro e w5 ⟨rfl, hb5⟩))
    go_ret
    exact ⟨by rw [Hs.out]; rfl, fin _ (by have h8 := hb4.size; simp at h8; exact (hb4.mono (by simp)).trans (hb5.mono (by omega)))⟩

def wrongRes (e : Int) (m op : Bool) (o most n L : Int) (lg : Bool) : Int :=
  if e ≠ 0 ∨ m = false ∨ (o = 0 ∧ op = false) ∨ ((o = 1 ∨ o = 2) ∧ op = true) then 1002
  else if controlB o = false ∧ (lg = true ∨ most - n < L) then 1009 else 0

set_option maxHeartbeats 2000000 in
set_option maxRecDepth 100000 in
theorem wrong_any (b : Nat) (f m op lg : Bool) (o z L e most _x : Int) (M B0 : ByteArray) (ao : Option Addr) (n cap : Nat) (w : World)
    (c0 : w.cell? ⟨b, 0, none⟩ = some (.int .i64 most)) (c2 : w.cell? ⟨b, 2, none⟩ = some (.bool op)) (c4 : w.cell? ⟨b, 4, none⟩ = some (.slice ao n cap))
    (hm0 : 0 ≤ most) (hm1 : most ≤ 16777216) (hn : n ≤ 16777216) (_ho0 : 0 ≤ o) (_ho1 : o < 16) :
    Calls Tryd.prog 51 #[.pointer (some ⟨b, 0, none⟩), .agg #[.bool f, .bool m, .int .i64 o, .string M, .string B0, .int .i64 z, .int .i64 L, .bool lg, .int .i64 e]] w fun er w' =>
      er = .returned (.int .i64 (wrongRes e m op o most n L lg)) ∧ Below w.heap.size w w' := by
  have hC := control_any o
  have hlt : b < w.heap.size := World.block_lt_of_cell? w _ c0
  obtain ⟨C, hCC⟩ : ∃ C, controlB o = C := ⟨_, rfl⟩
  rw [hCC] at hC
  have HC := Lib.hid hCC
  clear hCC
  obtain ⟨R, hR⟩ : ∃ R, wrongRes e m op o most n L lg = R := ⟨_, rfl⟩
  rw [hR]
  have HR := Lib.hid hR
  clear hR
  have hn0 : (0 : Int) ≤ (n : Int) := by omega
  have hn1 : (n : Int) ≤ 16777216 := by omega
  have hBx : Below w.heap.size w (w.alloc (.cells #[.bool f, .bool m, .int .i64 o, .string M, .string B0, .int .i64 z, .int .i64 L, .bool lg, .int .i64 e] 90)) := (Below.refl _ _).alloc (Nat.le_refl _) _
  go_enter Tryd.func51, Tryd.ntmps51
  go_upto_region 1 with fail
  go_cut [5] (fun v wx => v = .bool (decide (o = 1 ∨ o = 2)) ∧ wx = (w.alloc (.cells #[.bool f, .bool m, .int .i64 o, .string M, .string B0, .int .i64 z, .int .i64 L, .bool lg, .int .i64 e] 90)))
  case first =>
    by_cases k1 : o = 1
    · have t1 : (o == 1) = true := by simpa using k1
      have Hk := Lib.hid k1
      clear k1
      go_wp2_with fail
      go_meet
      exact ⟨by rw [decide_eq_true (.inl Hk.out)], rfl⟩
    · by_cases k2 : o = 2
      · have t1 : (o == 1) = false := by simpa using k1
        have t2 : (o == 2) = true := by simpa using k2
        have Hk := Lib.hid k2
        clear k1 k2
        go_wp2_with fail
        go_meet
        exact ⟨by rw [decide_eq_true (.inr Hk.out)], rfl⟩
      · have t1 : (o == 1) = false := by simpa using k1
        have t2 : (o == 2) = false := by simpa using k2
        have Hk := Lib.hid (show ¬ (o = 1 ∨ o = 2) by omega)
        clear k1 k2
        go_wp2_with fail
        go_meet
        exact ⟨by rw [decide_eq_false Hk.out], rfl⟩
  case rest =>
  obtain ⟨rfl, rfl⟩ := hcut
  have hrr : R = if (e != 0) = true ∨ m = false ∨ ((o == 0) = true ∧ op = false) ∨ (decide (o = 1 ∨ o = 2) = true ∧ op = true) then 1002 else if C = false ∧ (lg = true ∨ most - n < L) then 1009 else 0 := by
    rw [← HR.out, wrongRes, HC.out]
    simp
  have Hrr := Lib.hid hrr
  clear hrr
  generalize hBG : decide (o = 1 ∨ o = 2) = BG at *
  generalize hZ : (o == 0) = Z at *
  generalize hE : (e != 0) = E at *
  have HBG := Lib.hid hBG
  clear hBG
  cases E
  case true =>
    go_wp2_with fail
    go_ret
    exact ⟨by rw [Hrr.out]; simp, hBx⟩
  cases m
  case false =>
    go_wp2_with fail
    go_ret
    exact ⟨by rw [Hrr.out]; simp, hBx⟩
  have d0 : (w.alloc (.cells #[.bool f, .bool true, .int .i64 o, .string M, .string B0, .int .i64 z, .int .i64 L, .bool lg, .int .i64 e] 90)).cell? ⟨b, 0, none⟩ = some (.int .i64 most) := by rw [World.cell?_alloc_past _ _ _ hlt]; exact c0
  have d4 : (w.alloc (.cells #[.bool f, .bool true, .int .i64 o, .string M, .string B0, .int .i64 z, .int .i64 L, .bool lg, .int .i64 e] 90)).cell? ⟨b, 4, none⟩ = some (.slice ao n cap) := by rw [World.cell?_alloc_past _ _ _ hlt]; exact c4
  have hw1 : IntKind.i64.wrap (most - (n : Int)) = most - (n : Int) := by rw [IntKind.wrap_i64]; omega
  cases op
  · cases Z
    case true =>
      go_wp2_with fail
      go_ret
      exact ⟨by rw [Hrr.out]; simp, hBx⟩
    have Hr2 := Lib.hid (show R = if C = false ∧ (lg = true ∨ most - n < L) then 1009 else 0 by rw [Hrr.out]; simp)
    cases BG
    all_goals
      go_upto_region 7 with fail
      cases C
      · cases lg
        · by_cases hL : most - (n : Int) < L
          · have hd : decide (most - (n : Int) < L) = true := by simpa using hL
            have Hq := Lib.hid (show R = 1009 by rw [Hr2.out, if_pos ⟨rfl, .inr hL⟩])
            go_quiet ((go_at_call 41; exact Calls.quiet_of_same ((hC _).mono fun _ _ ⟨x, y⟩ => ⟨x, y.symm⟩)))
            go_wp2_with fail
            go_ret
            exact ⟨by rw [Hq.out]; rfl, hBx.trans (drewN_below _ _ _)⟩
          · have hd : decide (most - (n : Int) < L) = false := by simpa using hL
            have Hq := Lib.hid (show R = 0 by rw [Hr2.out, if_neg (by rintro ⟨_, h | h⟩; exact absurd h (by simp); exact hL h)])
            go_quiet ((go_at_call 41; exact Calls.quiet_of_same ((hC _).mono fun _ _ ⟨x, y⟩ => ⟨x, y.symm⟩)))
            go_wp2_with fail
            go_ret
            exact ⟨by rw [Hq.out]; rfl, hBx.trans (drewN_below _ _ _)⟩
        · have Hq := Lib.hid (show R = 1009 by rw [Hr2.out, if_pos ⟨rfl, .inl rfl⟩])
          go_quiet ((go_at_call 41; exact Calls.quiet_of_same ((hC _).mono fun _ _ ⟨x, y⟩ => ⟨x, y.symm⟩)))
          go_wp2_with fail
          go_ret
          exact ⟨by rw [Hq.out]; rfl, hBx.trans (drewN_below _ _ _)⟩
      · have Hq := Lib.hid (show R = 0 by rw [Hr2.out, if_neg (by rintro ⟨h, _⟩; exact absurd h (by simp))])
        go_quiet ((go_at_call 41; exact Calls.quiet_of_same ((hC _).mono fun _ _ ⟨x, y⟩ => ⟨x, y.symm⟩)))
        go_wp2_with fail
        go_ret
        exact ⟨by rw [Hq.out]; rfl, hBx.trans (drewN_below _ _ _)⟩
  · cases BG
    case true =>
      cases Z
      all_goals
        go_wp2_with fail
        go_ret
        exact ⟨by rw [Hrr.out]; simp, hBx⟩
    have Hr2 := Lib.hid (show R = if C = false ∧ (lg = true ∨ most - n < L) then 1009 else 0 by rw [Hrr.out]; simp)
    cases Z
    all_goals
      go_upto_region 7 with fail
      cases C
      · cases lg
        · by_cases hL : most - (n : Int) < L
          · have hd : decide (most - (n : Int) < L) = true := by simpa using hL
            have Hq := Lib.hid (show R = 1009 by rw [Hr2.out, if_pos ⟨rfl, .inr hL⟩])
            go_quiet ((go_at_call 41; exact Calls.quiet_of_same ((hC _).mono fun _ _ ⟨x, y⟩ => ⟨x, y.symm⟩)))
            go_wp2_with fail
            go_ret
            exact ⟨by rw [Hq.out]; rfl, hBx.trans (drewN_below _ _ _)⟩
          · have hd : decide (most - (n : Int) < L) = false := by simpa using hL
            have Hq := Lib.hid (show R = 0 by rw [Hr2.out, if_neg (by rintro ⟨_, h | h⟩; exact absurd h (by simp); exact hL h)])
            go_quiet ((go_at_call 41; exact Calls.quiet_of_same ((hC _).mono fun _ _ ⟨x, y⟩ => ⟨x, y.symm⟩)))
            go_wp2_with fail
            go_ret
            exact ⟨by rw [Hq.out]; rfl, hBx.trans (drewN_below _ _ _)⟩
        · have Hq := Lib.hid (show R = 1009 by rw [Hr2.out, if_pos ⟨rfl, .inl rfl⟩])
          go_quiet ((go_at_call 41; exact Calls.quiet_of_same ((hC _).mono fun _ _ ⟨x, y⟩ => ⟨x, y.symm⟩)))
          go_wp2_with fail
          go_ret
          exact ⟨by rw [Hq.out]; rfl, hBx.trans (drewN_below _ _ _)⟩
      · have Hq := Lib.hid (show R = 0 by rw [Hr2.out, if_neg (by rintro ⟨h, _⟩; exact absurd h (by simp))])
        go_quiet ((go_at_call 41; exact Calls.quiet_of_same ((hC _).mono fun _ _ ⟨x, y⟩ => ⟨x, y.symm⟩)))
        go_wp2_with fail
        go_ret
        exact ⟨by rw [Hq.out]; rfl, hBx.trans (drewN_below _ _ _)⟩
end Go.Proofs.YtmgfpjfamdbhbaaDoor
