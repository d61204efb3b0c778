/- The law SocketEchoes' walk. -/
import Derived.Test.YtmgfpjfamdbhbaaDoorEchoP
import Derived.Test.YtmgfpjfamdbhbaaDoorLPeers
namespace Go.Proofs.YtmgfpjfamdbhbaaDoor
open Go.RowKit

structure Msg where
  text : Bool
  body : ByteArray
  pv : Value
  zs : List Int
/-- the slice v holds the messages -/
def MsgsAt (w : World) (v : Value) (ms : List Msg) : Prop :=
  (v = .slice none 0 0 ∧ ms = []) ∨ ∃ (a : Addr) (cap : Nat), v = .slice (some a) ms.length cap ∧ (0 < ms.length → a.block < w.heap.size) ∧
    ∀ i (h : i < ms.length), w.cell? (a.add (i * 3)) = some (.bool ms[i].text) ∧ w.cell? ((a.add (i * 3)).add 1) = some (.string ms[i].body) ∧ w.cell? ((a.add (i * 3)).add 2) = some ms[i].pv ∧ IntsAt w ms[i].pv ms[i].zs
def msgsBulk : List Msg → Nat
  | [] => 0
  | m :: r => m.body.size + m.zs.length + 2 + msgsBulk r
theorem msgsBulk_len (l : List Msg) : l.length ≤ msgsBulk l := by
  induction l with
  | nil => simp
  | cons o r ih => simp only [msgsBulk, List.length_cons]; omega
theorem msgsBulk_drop (l : List Msg) (j : Nat) (h : j < l.length) : msgsBulk (l.drop j) = l[j].body.size + l[j].zs.length + 2 + msgsBulk (l.drop (j + 1)) := by
  rw [List.drop_eq_getElem_cons h, msgsBulk]
theorem add_two (a : Addr) : a.add 2 = ⟨a.block, a.off + 2, none⟩ := by simp [Addr.add]

set_option maxHeartbeats 1000000 in
set_option maxRecDepth 100000 in
theorem client_any (op : Int) (fin : Bool) (body : ByteArray) (w : World) (hb : body.size ≤ 16777216) (hf : Fine fin true op mkL (bl body)) :
    Calls Tryd.prog 36 #[.int .i64 op, .bool fin, .string body] w fun e w' => e = .returned (.tuple #[.string (bs (cL op fin (bl body))), .bool true]) ∧ Below w.heap.size w w' := by
  have hP : ∀ wx, Calls Tryd.prog 15 #[.agg #[.bool fin, .bool true, .int .i64 op, .string ⟨#[5, 0, 255, 119]⟩, .string body]] wx fun e w' => e = .returned (.tuple #[.string (bs (cL op fin (bl body))), .int .i64 0]) ∧ Below wx.heap.size wx w' := fun wx => by
    have := print_any fin true op ⟨#[5, 0, 255, 119]⟩ body wx (by omega) (by decide)
    rw [show bl ⟨#[5, 0, 255, 119]⟩ = mkL from rfl, show printL fin true op mkL (bl body) = (cL op fin (bl body), 0) by unfold cL; rw [hf.print]] at this
    exact this
  generalize bs (cL op fin (bl body)) = S at *
  clear hf
  go_enter Tryd.func36, Tryd.ntmps36
  go_wp2_with (first | (go_at_call 15; refine (hP _).mono ?_; rintro e w1 ⟨rfl, hb1⟩))
  go_ret2
  exact ⟨rfl, hb1⟩

theorem feed_step {p q q1 : RP} {a wa f o1 : List UInt8} (h : feedL p a = (q, wa)) (h1 : feedL q f = (q1, o1)) : feedL p (a ++ f) = (q1, wa ++ o1) := by rw [feedL_append, h]; simp only [h1]
theorem feedL_none (M : Int) : feedL (newL M) (bl ⟨#[]⟩) = (idleL M 0, bl ⟨#[]⟩) := by
  show feedL (newL M) [] = (idleL M 0, [])
  rw [feedL, if_neg (by simp [newL])]
  rfl
set_option maxHeartbeats 4000000 in
set_option maxRecDepth 100000 in
theorem echoes_any (v : Value) (ms : List Msg) (ping : ByteArray) (w : World) (hT : Tabs w) (ho : MsgsAt w v ms) (hsz : msgsBulk ms ≤ 1048576) (hpg : ping.size ≤ 1048576) :
    Calls Tryd.prog 12 #[v, .string ping] w fun e w' => e = .returned (.bool true) ∧ Below w.heap.size w w' := by
  have hA := awake_any w hT
  have hlen : ∃ ao cap, v = .slice ao ms.length cap := by
    rcases ho with ⟨rfl, rfl⟩ | ⟨a, cap, rfl, _, _⟩
    · exact ⟨none, 0, rfl⟩
    · exact ⟨_, cap, rfl⟩
  obtain ⟨ao, cap, hv⟩ := hlen
  subst hv
  by_cases hp : 125 < ping.size
  · have d1 : (125 : Int) < (ping.size : Int) := by omega
    go_enter Tryd.func12, Tryd.ntmps12
    go_wp2_with (first | (go_at_call 14; refine hA.mono ?_; rintro e w1 ⟨rfl, hb1⟩))
    go_ret
    exact ⟨rfl, hb1⟩
  have d1 : ¬ (125 : Int) < (ping.size : Int) := by omega
  have hpz : ping.size ≤ 125 := by omega
  have H2 := Lib.hid hT.two
  have HT := Lib.hid (fun wx (hb : Below w.heap.size w wx) => hT.below hT.size hb)
  have Ho := Lib.hid ho
  have hol := msgsBulk_len ms
  have hol2 : ms.length ≤ 1048576 := by omega
  have Hsz := Lib.hid hsz
  have hPing := fun wx => client_any 9 true ping wx (by omega) (fine_ctl' (.inr rfl) (by rw [bl_length]; exact hpz))
  have hPong : ∀ wx, Calls Tryd.prog 15 #[.agg #[.bool true, .bool false, .int .i64 10, .string ⟨#[]⟩, .string ping]] wx fun e w' => e = .returned (.tuple #[.string (bs (sayL 10 (bl ping))), .int .i64 0]) ∧ Below wx.heap.size wx w' := fun wx => by
    have := print_any true false 10 ⟨#[]⟩ ping wx (by omega) (by decide)
    rw [show bl ⟨#[]⟩ = ([] : List UInt8) from rfl, show printL true false 10 [] (bl ping) = (sayL 10 (bl ping), 0) by
      unfold sayL; rw [(fine_pong (.inr rfl) (by rw [bl_length]; exact hpz) : Fine true false 10 [] (bl ping)).print]] at this
    exact this
  have hps : (bs (cL 9 true (bl ping))).size ≤ 139 := by rw [bs_size]; have := cL_size (fin := true) (op := 9) (body := bl ping) (fine_ctl' (.inr rfl) (by rw [bl_length]; exact hpz)); rw [bl_length] at this; omega
  have hqs : (bs (sayL 10 (bl ping))).size ≤ 139 := by rw [bs_size]; have := sayL_len 10 (bl ping); have h2 := moreL_cases (bl ping).length; rw [bl_length] at this h2; omega
  have Hpl := Lib.hid (show bl (bs (cL 9 true (bl ping))) = cL 9 true (bl ping) from rfl)
  have Hql := Lib.hid (show bl (bs (sayL 10 (bl ping))) = sayL 10 (bl ping) from rfl)
  have HPE := Lib.hid (show ∀ p : RP, p.rest = [] → p.code = 0 → feedL p (cL 9 true (bl ping)) = (p, sayL 10 (bl ping)) from fun p h1 h2 => ping_echo h1 h2 (by rw [bl_length]; exact hpz))
  generalize bs (cL 9 true (bl ping)) = PG at *
  generalize bs (sayL 10 (bl ping)) = PO at *
  clear ho hT hol hsz hpg hp
  go_enter Tryd.func12, Tryd.ntmps12
  go_upto_block 0 with (first | (go_at_call 14; refine hA.mono ?_; rintro e w1 ⟨rfl, hb1⟩))
  have HB1 := Lib.hid hb1
  clear hb1 hA
  go_cut [5, 6, 7, 8] (fun o wa mo sd wx => ∃ (inb wantb : ByteArray) (m s : Nat), o = .string inb ∧ wa = .string wantb ∧ mo = .int .i64 m ∧ sd = .int .i64 s ∧ m ≤ 16777216 ∧ s ≤ 1048576 ∧ inb.size ≤ 209715200 ∧ wantb.size ≤ 209715200 ∧
    Hid (∀ M : Nat, m ≤ M → M ≤ 16777216 → feedL (newL M) (bl inb) = (idleL M s, bl wantb)) ∧ Hid (Below w.heap.size w wx))
  case first =>
    go_wp2_with fail
    go_loopg [5, 6, 7, 8, 38] (ms.length + 1) (fun gk o wa mo sd i wr => ∃ (inb wantb : ByteArray) (m s j dn : Nat), o = .string inb ∧ wa = .string wantb ∧ mo = .int .i64 m ∧ sd = .int .i64 s ∧ i = .int .i64 j ∧ j ≤ ms.length ∧ gk = ms.length - j + 1 ∧ m ≤ 1048576 ∧ s ≤ j ∧ dn ≤ 1048576 ∧ inb.size ≤ 200 * dn ∧ wantb.size ≤ 200 * dn ∧
      Hid (dn + msgsBulk (ms.drop j) ≤ 1048576) ∧ Hid (∀ M : Nat, m ≤ M → M ≤ 16777216 → feedL (newL M) (bl inb) = (idleL M s, bl wantb)) ∧ Hid (Below w.heap.size w wr))
    case atStart => exact ⟨⟨#[]⟩, ⟨#[]⟩, 0, 0, 0, 0, rfl, rfl, rfl, rfl, rfl, Nat.zero_le _, rfl, Nat.zero_le _, Nat.zero_le _, Nat.zero_le _, Nat.le_refl _, Nat.le_refl _, Lib.hid (by simpa using Hsz.out), Lib.hid (fun M _ _ => feedL_none M), HB1⟩
    case round =>
      obtain ⟨inb, wantb, m, s, j, dn, rfl, rfl, rfl, rfl, rfl, hj, rfl, hm, hs, hdn, his, hws, Hdn, HF, HB⟩ := hrel
      clear HB1
      by_cases hlt : j < ms.length
      case neg =>
        obtain rfl : j = ms.length := by omega
        go_wp2_with fail
        go_meet
        exact ⟨inb, wantb, m, s, rfl, rfl, rfl, rfl, by omega, by omega, by omega, by omega, HF, HB⟩
      obtain ⟨a, hao, hc0, hc1, hc2, hpz⟩ : ∃ a : Addr, ao = some a ∧ wr.cell? (a.add (j * 3)) = some (.bool (ms[j]'hlt).text) ∧ wr.cell? ((a.add (j * 3)).add 1) = some (.string (ms[j]'hlt).body) ∧ wr.cell? ((a.add (j * 3)).add 2) = some (ms[j]'hlt).pv ∧ IntsAt w (ms[j]'hlt).pv (ms[j]'hlt).zs := by
        rcases Ho.out with ⟨_, h0⟩ | ⟨a, cap', he, hbl, hc⟩
        · rw [h0] at hlt; simp at hlt
        · simp only [Value.slice.injEq] at he
          have hb := hbl (by omega)
          exact ⟨a, he.1, (HB.out.cell (p := a.add (j * 3)) (by rw [add_block]; exact hb)).trans (hc j hlt).1, (HB.out.cell (p := (a.add (j * 3)).add 1) (by rw [add_block, add_block]; exact hb)).trans (hc j hlt).2.1, (HB.out.cell (p := (a.add (j * 3)).add 2) (by rw [add_block, add_block]; exact hb)).trans (hc j hlt).2.2.1, (hc j hlt).2.2.2⟩
      subst hao
      have hS := msgsBulk_drop ms j hlt
      generalize ms[j]'hlt = mg at *
      obtain ⟨tx, body, pv, zs⟩ := mg
      simp only at hc0 hc1 hc2 hpz hS
      rw [add_one] at hc1
      rw [add_two] at hc2
      obtain ⟨po, pcap, hpv⟩ : ∃ ao cap, pv = .slice ao zs.length cap := by
        rcases hpz with ⟨rfl, rfl⟩ | ⟨a, cap, rfl, _, _⟩
        · exact ⟨none, 0, rfl⟩
        · exact ⟨_, cap, rfl⟩
      subst hpv
      have Hpz := Lib.hid hpz
      have hd0 := Hdn.out
      rw [hS] at hd0
      have hbz : body.size ≤ 1048576 := by omega
      have hzz : zs.length ≤ 1048576 := by omega
      have hdn2 : dn + body.size + zs.length + 2 ≤ 1048576 := by omega
      have Hd0 := Lib.hid hd0
      have hV := fun wx => risText_any body wx (by omega)
      obtain ⟨V, hVV⟩ : ∃ V, Lib.validD (bl body) = V := ⟨_, rfl⟩
      rw [hVV] at hV
      have HVV := Lib.hid hVV
      clear hpz hS hd0 hVV
      go_upto_region 10 with fail
      obtain ⟨X, hX⟩ : ∃ X, wr.alloc (.cells #[.bool tx, .string body, .slice po zs.length pcap] 71) = X := ⟨_, rfl⟩
      have hXB : Below w.heap.size w X := by rw [← hX]; exact HB.out.alloc HB.out.size _
      have hXo : X.heap[wr.heap.size]? = some (.cells #[.bool tx, .string body, .slice po zs.length pcap] 71 (0, 0)) := by rw [← hX]; exact heap_alloc_new _ _
      rw [hX]
      clear hX hc0 hc1 hc2
      generalize wr.heap.size = mb at *
      have x0 := hd_cell hXo 0
      have x1 := hd_cell hXo 1
      have x2 := hd_cell hXo 2
      simp only [List.getElem?_toArray, List.getElem?_cons_zero, List.getElem?_cons_succ] at x0 x1 x2
      have HXo := Lib.hid hXo
      have HXB := Lib.hid hXB
      clear hXo hXB
      go_upto_region 11 with fail
      go_cut [48] (fun v wx => v = .bool (tx && V) ∧ X = wx)
      case first =>
        cases tx
        · go_wp2_with fail
          go_meet
          exact ⟨by simp, rfl⟩
        · go_wp2_with (first | (go_at_call 21; refine (hV _).mono ?_; rintro e w4 ⟨rfl, rfl⟩))
          go_meet
          exact ⟨by simp, rfl⟩
      case rest =>
      obtain ⟨rfl, rfl⟩ := hcut
      go_upto_if 48 with fail
      go_cut [11] (fun v wx => ∃ op : Int, v = .int .i64 op ∧ Hid (op = 1 ∨ op = 2) ∧ Hid (op = 1 → Lib.validD (bl body) = true) ∧ X = wx)
      case first =>
        obtain ⟨TV, hTV⟩ : ∃ TV, (tx && V) = TV := ⟨_, rfl⟩
        rw [hTV]
        have HTV := Lib.hid hTV
        clear hTV
        cases TV
        · go_wp2_with fail
          go_meet
          exact ⟨2, rfl, Lib.hid (.inr rfl), Lib.hid (by intro h; cases h), rfl⟩
        · go_wp2_with fail
          go_meet
          refine ⟨1, rfl, Lib.hid (.inl rfl), Lib.hid (fun _ => ?_), rfl⟩
          have := HTV.out
          rw [HVV.out]; simp at this; exact this.2
      case rest =>
      obtain ⟨op, rfl, Hop, Hval, rfl⟩ := hcut
      clear hV
      go_upto_block 2 with fail
      go_cut [5, 6, 12, 13] (fun o5 o6 o12 o13 wx => ∃ (inb' wantb' rest : ByteArray) (msg : List UInt8) (o kind : Int), o5 = .string inb' ∧ o6 = .string wantb' ∧ o12 = .string rest ∧ o13 = .int .i64 kind ∧ rest.size ≤ body.size ∧ inb'.size + rest.size ≤ 200 * dn + 160 * zs.length + body.size ∧ wantb'.size ≤ 200 * dn + 160 * zs.length ∧
        Hid (Part op (bl body) msg (bl rest) o kind) ∧ Hid (∀ M : Nat, max m body.size ≤ M → M ≤ 16777216 → feedL (newL M) (bl inb') = (⟨M, [], msg, o, 0, s⟩, bl wantb')) ∧ Hid (Below w.heap.size w wx) ∧ Hid (wx.heap[mb]? = some (.cells #[.bool tx, .string body, .slice po zs.length pcap] 71 (0, 0))))
      case first =>
        go_wp2_with fail
        go_loopg [5, 6, 12, 13, 64] (zs.length + 1) (fun gk o5 o6 o12 o13 ii wx => ∃ (inb' wantb' rest : ByteArray) (msg : List UInt8) (o kind : Int) (i : Nat), o5 = .string inb' ∧ o6 = .string wantb' ∧ o12 = .string rest ∧ o13 = .int .i64 kind ∧ ii = .int .i64 i ∧ i ≤ zs.length ∧ gk = zs.length - i + 1 ∧ rest.size ≤ body.size ∧ inb'.size + rest.size ≤ 200 * dn + 160 * i + body.size ∧ wantb'.size ≤ 200 * dn + 160 * i ∧
          Hid (Part op (bl body) msg (bl rest) o kind) ∧ Hid (∀ M : Nat, max m body.size ≤ M → M ≤ 16777216 → feedL (newL M) (bl inb') = (⟨M, [], msg, o, 0, s⟩, bl wantb')) ∧ Hid (Below w.heap.size w wx) ∧ Hid (wx.heap[mb]? = some (.cells #[.bool tx, .string body, .slice po zs.length pcap] 71 (0, 0))))
        case atStart =>
          exact ⟨inb, wantb, body, [], 0, op, 0, rfl, rfl, rfl, rfl, rfl, Nat.zero_le _, rfl, Nat.le_refl _, by omega, by omega, Lib.hid (.inl ⟨rfl, rfl, rfl, rfl⟩), Lib.hid (fun M h1 h2 => HF.out M (by omega) h2), HXB, HXo⟩
        case round =>
          obtain ⟨inb', wantb', rest, msg, o, kind, i, rfl, rfl, rfl, rfl, rfl, hi, rfl, hr, hin, hwa, Hpart, HFi, HBi, HXi⟩ := hrel
          clear HXB HXo HF
          by_cases hlti : i < zs.length
          case neg =>
            obtain rfl : i = zs.length := by omega
            go_wp2_with fail
            go_meet
            exact ⟨inb', wantb', rest, msg, o, kind, rfl, rfl, rfl, rfl, hr, hin, hwa, Hpart, HFi, HBi, HXi⟩
          obtain ⟨a2, hpo, hcell⟩ : ∃ a2 : Addr, po = some a2 ∧ wr.cell? (a2.add i) = some (.int .i64 (zs[i]'hlti)) := by
            rcases Hpz.out with ⟨_, h0⟩ | ⟨a2, cap', he, hbl, hc⟩
            · rw [h0] at hlti; simp at hlti
            · simp only [Value.slice.injEq] at he
              exact ⟨a2, he.1, (HBi.out.cell (p := a2.add i) (by rw [add_block]; exact hbl (by omega))).trans (hc i hlti)⟩
          subst hpo
          obtain ⟨c, hc⟩ : ∃ c, zs[i]'hlti = c := ⟨_, rfl⟩
          rw [hc] at hcell
          clear hc
          go_upto_region 20 with fail
          obtain ⟨r, hr0⟩ : ∃ r, c.tmod ((rest.size : Int) + 1) = r := ⟨_, rfl⟩
          have hr1 : -((rest.size : Int) + 1) < r := by rw [← hr0]; exact Int.lt_tmod_of_pos c (by omega)
          have hr2 : r < (rest.size : Int) + 1 := by rw [← hr0]; exact Int.tmod_lt_of_pos c (by omega)
          have hrz : rest.size ≤ 1048576 := by omega
          go_cut [16] (fun vk wx => ∃ k : Nat, vk = .int .i64 k ∧ k ≤ rest.size ∧ wr = wx)
          case first =>
            go_wp2_with fail
            go_meet
            refine ⟨((r + (rest.size : Int) + 1) % ((rest.size : Int) + 1)).toNat, ?_, ?_, rfl⟩
            · rw [Int.toNat_of_nonneg (Int.emod_nonneg _ (by omega))]
            · have := Int.emod_lt_of_pos (r + (rest.size : Int) + 1) (show (0 : Int) < (rest.size : Int) + 1 by omega)
              have := Int.emod_nonneg (r + (rest.size : Int) + 1) (show (rest.size : Int) + 1 ≠ 0 by omega)
              omega
          case rest =>
          obtain ⟨k, rfl, hk, rfl⟩ := hcut
          clear hr0 hr1 hr2 hcell
          have hex : bl (rest.extract 0 k) = (bl rest).take k := by rw [bl_extract, List.drop_zero, Nat.sub_zero]
          have hex2 : bl (rest.extract k rest.size) = (bl rest).drop k := by rw [bl_extract]; exact List.take_of_length_le (by rw [List.length_drop, bl_length]; exact Nat.le_refl _)
          have hexs : (rest.extract k rest.size).size = rest.size - k := by rw [ByteArray.size_extract]; omega
          have HPM := Lib.hid (fun (M : Nat) (h : max m body.size ≤ M) => part_more Hop.out Hpart.out (M := (M : Int)) (by rw [bl_length]; omega) (by rw [bl_length]; omega) s k)
          have hpm := HPM.out (max m body.size) (Nat.le_refl _)
          have hC1 := fun wx => client_any kind false (rest.extract 0 k) wx (by rw [ByteArray.size_extract]; omega) (by rw [hex]; exact hpm.2.2)
          rw [hex] at hC1
          have hFz : (bs (cL kind false ((bl rest).take k))).size ≤ k + 14 := by rw [bs_size]; have := cL_size hpm.2.2; rw [List.length_take, bl_length] at this; omega
          have HFb := Lib.hid (show bl (bs (cL kind false ((bl rest).take k))) = cL kind false ((bl rest).take k) from rfl)
          have Hpart2 := Lib.hid hpm.2.1
          have Hex2 := Lib.hid hex2
          have Hexs := Lib.hid hexs
          generalize bs (cL kind false ((bl rest).take k)) = FR1 at *
          have hk0 : (k : Int) ≤ (rest.size : Int) := by omega
          have hz1 : FR1.size + PG.size ≤ 1048729 := by omega
          have hz2 : inb'.size + (FR1.size + PG.size) ≤ 1073741824 := by omega
          have hz3 : wantb'.size + PO.size ≤ 1073741824 := by omega
          clear hpm hex hex2 hexs
          go_upto_region 31 with (first | (go_at_call 36; (with_reducible refine (hC1 _).mono ?_); rintro e w4 ⟨rfl, hb4⟩) | (go_at_call 36; (with_reducible refine (hPing _).mono ?_); rintro e w5 ⟨rfl, hb5⟩) | (go_at_call 15; refine (hPong _).mono ?_; rintro e w6 ⟨rfl, hb6⟩))
          have hb46 := (hb4.trans (hb5.mono hb4.size)).trans (hb6.mono (Nat.le_trans hb4.size hb5.size))
          have HB6 := Lib.hid (HBi.out.trans (hb46.mono HBi.out.size))
          have HX6 := Lib.hid ((hb46.block _ (hd_lt HXi.out)).trans HXi.out)
          clear hb46 hb4 hb5 hb6
          go_wp2_with fail
          go_roundg (zs.length - (i + 1) + 1)
          case measure => omega
          case rel =>
            refine ⟨_, _, _, msg ++ (bl rest).take k, op, 0, i + 1, rfl, rfl, rfl, rfl, by go_num, by omega, rfl, ?_, ?_, ?_, ?_, ?_, HB6, HX6⟩
            · rw [Hexs.out]; omega
            · rw [ByteArray.size_append, ByteArray.size_append, Hexs.out]; omega
            · rw [ByteArray.size_append]; omega
            · show Part _ _ _ _ _ _
              rw [Hex2.out]; exact Hpart2.out
            · refine Lib.hid (fun M h1 h2 => ?_)
              rw [bl_append, bl_append, bl_append, HFb.out, Hpl.out, Hql.out, ← List.append_assoc]
              have e1 := feed_step (HFi.out M h1 h2) (HPM.out M h1).1
              rw [List.append_nil] at e1
              exact feed_step e1 (HPE.out _ rfl rfl)
      case rest =>
      obtain ⟨inb', wantb', rest, msg, o, kind, rfl, rfl, rfl, rfl, hr, hin, hwa, Hpart, HFi, HBi, HXi⟩ := hcut
      clear HXB HXo HF
      have hrz : rest.size ≤ 1048576 := by omega
      have hbl2 : (bl body).length = body.size := bl_length _
      have HPL := Lib.hid (fun (M : Nat) (h : max m body.size ≤ M) => part_last Hop.out Hpart.out (M := (M : Int)) (by rw [bl_length]; omega) (by rw [bl_length]; omega) s Hval.out)
      have hpl := HPL.out (max m body.size) (Nat.le_refl _)
      have hC2 := fun wx => client_any kind true rest wx (by omega) hpl.2
      have hFz : (bs (cL kind true (bl rest))).size ≤ rest.size + 14 := by rw [bs_size]; have := cL_size hpl.2; rw [bl_length] at this; omega
      have HFb := Lib.hid (show bl (bs (cL kind true (bl rest))) = cL kind true (bl rest) from rfl)
      have hSay : ∀ wx, Calls Tryd.prog 15 #[.agg #[.bool true, .bool false, .int .i64 op, .string ⟨#[]⟩, .string body]] wx fun e w' => e = .returned (.tuple #[.string (bs (sayL op (bl body))), .int .i64 0]) ∧ Below wx.heap.size wx w' := fun wx => by
        have := print_any true false op ⟨#[]⟩ body wx (by omega) (by decide)
        rw [show bl ⟨#[]⟩ = ([] : List UInt8) from rfl, show printL true false op [] (bl body) = (sayL op (bl body), 0) by
          unfold sayL; rw [(fine_data Hop.out (by rw [bl_length]; omega) : Fine true false op [] (bl body)).print]] at this
        exact this
      have hSz : (bs (sayL op (bl body))).size ≤ body.size + 10 := by rw [bs_size]; have := sayL_len op (bl body); have h2 := moreL_cases (bl body).length; rw [bl_length] at this h2; omega
      have HSb := Lib.hid (show bl (bs (sayL op (bl body))) = sayL op (bl body) from rfl)
      generalize bs (cL kind true (bl rest)) = FR2 at *
      generalize bs (sayL op (bl body)) = SO at *
      have hz2 : inb'.size + FR2.size ≤ 1073741824 := by omega
      have hz3 : wantb'.size + SO.size ≤ 1073741824 := by omega
      clear hpl hbl2 hPing hPong
      go_upto_region 33 with (first | (go_at_call 36; (with_reducible refine (hC2 _).mono ?_); rintro e w4 ⟨rfl, hb4⟩; have hx4 := (hb4.block _ (hd_lt HXi.out)).trans HXi.out; have y1 := hd_cell hx4 1; simp only [List.getElem?_toArray, List.getElem?_cons_zero, List.getElem?_cons_succ] at y1))
      go_upto_region 36 with (first | (go_at_call 15; (with_reducible refine (hSay _).mono ?_); rintro e w5 ⟨rfl, hb5⟩))
      have hb45 := hb4.trans (hb5.mono hb4.size)
      have HB5 := Lib.hid (HBi.out.trans (hb45.mono HBi.out.size))
      clear hb45 hb4 hb5 hx4 y1
      go_wp2_with fail
      go_roundg (ms.length - (j + 1) + 1)
      case measure => omega
      case rel =>
        refine ⟨_, _, max m body.size, s + 1, j + 1, dn + (body.size + zs.length + 2), rfl, rfl, by congr 1; omega, by go_num, by go_num, by omega, rfl, by omega, by omega, by omega, ?_, ?_, ?_, ?_, HB5⟩
        · rw [ByteArray.size_append]; omega
        · rw [ByteArray.size_append]; omega
        · exact Lib.hid (by have := Hd0.out; omega)
        · refine Lib.hid (fun M h1 h2 => ?_)
          rw [bl_append, bl_append, HFb.out, HSb.out]
          have e1 := feed_step (HFi.out M h1 h2) (HPL.out M h1).1
          rw [show wrap64 ((s : Int) + 1) = ((s + 1 : Nat) : Int) by unfold wrap64; omega] at e1
          exact e1
  case rest =>
  obtain ⟨inb, wantb, m, s, rfl, rfl, rfl, rfl, hm, hs, his, hws, HF, HB⟩ := hcut
  have hfe := HF.out m (Nat.le_refl _) hm
  have hN := fun wx => new_ok (m : Int) wx (by omega) (by omega)
  have hBye := fun wx => client_any 8 true ⟨#[3, 232]⟩ wx (by decide) (fine_ctl' (.inl rfl) (by decide))
  have hbz : (bs (cL 8 true (bl ⟨#[3, 232]⟩))).size ≤ 16 := by rw [bs_size]; exact cL_size (fine_ctl' (.inl rfl) (by decide))
  have hbye := bye_law m s (bl inb)
  have hbb : bl (bs (cL 8 true (bl ⟨#[3, 232]⟩)) ++ inb) = cL 8 true [3, 232] ++ bl inb := by rw [bl_append]; rfl
  rw [← hbb] at hbye
  generalize bs (cL 8 true (bl ⟨#[3, 232]⟩)) = BY at *
  have HFE := Lib.hid hfe
  have HBE := Lib.hid hbye
  clear hfe hbye hbb HF hPing hPong hps hqs Hpl Hql HPE
  go_upto_region 43 with (first | (go_at_call 28; refine (hN _).mono ?_; rintro e w2 ⟨rfl, hp2, hb2, hs2⟩))
  have hbs2 := HB.out.size
  have hB2 := HB.out.trans (hb2.mono HB.out.size)
  have hF := feed_any wc.heap.size wc.heap.size (newL m) (.slice none 0 0) inb w2 hp2 (HT.out _ hB2) (by have := H2.out; omega) hb2.size ⟨by show (0 : Int) ≤ m; omega, by show (m : Int) ≤ 16777216; omega⟩ (by show 0 ≤ _; omega) (by show 0 + 0 + inb.size + 12 ≤ _; omega)
  rw [HFE.out] at hF
  simp only [bs_bl] at hF
  have HB2 := Lib.hid hB2
  have Hs2 := Lib.hid hb2.size
  clear hB2 hb2 hN HFE
  go_wp2_with fail
  refine hF.mono ?_
  rintro e w3 ⟨rfl, v3, hl3⟩
  have hB3 := HB2.out.trans (hl3.own' hp2 hbs2 Hs2.out)
  have hp3 := hl3.1
  have hCl := closed_any _ _ _ _ _ hp3
  have hEc := echoed_any _ _ _ _ _ hp3
  have hHe := held_any _ _ _ _ _ hp3 (by simp [idleL])
  rw [show ((idleL m s).code != 0) = false from rfl] at hCl
  rw [show (idleL m s).echoed = (s : Int) from rfl] at hEc
  rw [show (((idleL m s).msg.length + (idleL m s).rest.length : Nat) : Int) = 0 from rfl] at hHe
  have HB3 := Lib.hid hB3
  have HP3 := Lib.hid hp3
  have Hs3 := Lib.hid (show wc.heap.size ≤ w3.heap.size by have := hp3.lt; omega)
  clear hF hp2 hs2 hl3 hB3 hp3
  go_upto_region 46 with (first | (go_at_call 31; refine hCl.mono ?_; rintro e w4 ⟨rfl, rfl⟩) | (go_at_call 37; refine hEc.mono ?_; rintro e w4 ⟨rfl, rfl⟩) | (go_at_call 38; refine hHe.mono ?_; rintro e w4 ⟨rfl, hb4⟩) | (go_at_call 36; refine (hBye _).mono ?_; rintro e w5 ⟨rfl, hb5⟩))
  have hb35 := hb4.trans (hb5.mono hb4.size)
  have hp5 := HP3.out.below hb35 (Nat.le_refl _)
  have hB5 := HB3.out.trans (hb35.mono HB3.out.size)
  have hF := feed_any wc.heap.size wc.heap.size (idleL m s) v3 (BY ++ inb) w5 hp5 (HT.out _ hB5) (by have := H2.out; omega) (by have := hp5.lt; omega) ⟨by show (0 : Int) ≤ m; omega, by show (m : Int) ≤ 16777216; omega⟩ (by show 0 ≤ _; omega) (by show 0 + 0 + (BY ++ inb).size + 12 ≤ _; rw [ByteArray.size_append]; omega)
  rw [HBE.out] at hF
  rw [show bs [136, 2, 3, 232] = ⟨#[136, 2, 3, 232]⟩ from rfl] at hF
  simp only at hF
  have HP5 := Lib.hid hp5
  have HB5 := Lib.hid hB5
  clear hb35 hp5 hB5 hb4 hb5 hCl hEc hHe hBye HBE
  go_wp2_with (first | (go_at_call 30; refine hF.mono ?_; rintro e w6 ⟨rfl, v6, hl6⟩; have hC6 := closed_any _ _ _ _ _ hl6.1; have hD6 := code_any _ _ _ _ _ hl6.1; rw [show ((1000 : Int) != 0) = true from rfl] at hC6) | (go_at_call 31; refine hC6.mono ?_; rintro e w7 ⟨rfl, rfl⟩) | (go_at_call 39; refine hD6.mono ?_; rintro e w7 ⟨rfl, rfl⟩))
  go_ret
  exact ⟨by simp, HB5.out.trans (hl6.own' HP5.out hbs2 (by have := HP5.out.lt; omega))⟩
end Go.Proofs.YtmgfpjfamdbhbaaDoor
