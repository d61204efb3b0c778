/- Peer.Feed's plain facts: what a round says, how long it may get, and what of memory is whose. -/
import Derived.Test.YtmgfpjfamdbhbaaDoorSmallM
import Derived.Deep.LoopGhost
namespace Go.Proofs.YtmgfpjfamdbhbaaDoor
open Go.RowKit

def moreL (n : Nat) : Nat := if n ≤ 125 then 0 else if n ≤ 65535 then 2 else 8
theorem lenL_length (msk : Bool) (n : Nat) : (lenL msk n).length = 1 + moreL n := by
  unfold lenL moreL; split
  · simp
  · split
    · simp [highL, highTo_length]
    · simp [highL, highTo_length]
theorem sayL_len (op : Int) (body : List UInt8) : (sayL op body).length ≤ 2 + moreL body.length + body.length := by
  unfold sayL printL
  split
  · simp
  · split
    · simp
    · split
      · simp
      · simp [lenL_length, maskL_length]; omega
theorem closeL_len (code : Int) : (closeL code []).1.length ≤ 2 := by
  unfold closeL
  split
  · simp
  · split
    · simp
    · split
      · simp
      · simp [highL, highTo_length]
theorem closingL_len (p : RP) (code : Int) : (closingL p code).2.length ≤ 4 := by
  unfold closingL
  refine Nat.le_trans (sayL_len _ _) ?_
  have h2 : (if code = 1005 then ([] : List UInt8) else (closeL code []).1).length ≤ 2 := by split; simp; exact closeL_len code
  generalize (if code = 1005 then ([] : List UInt8) else (closeL code []).1).length = n at *
  unfold moreL; split <;> omega

theorem control_op {s : List UInt8} (h : isOpB (opN s) = true) : controlB (opN s) = !decide (opN s < 8) := by
  rcases isOp_cases h with h | h | h | h | h | h <;> rw [h] <;> decide

theorem early_eq (p : RP) : wrongRes (errN p.rest) (hiB (at1 p.rest)) (decide (p.op ≠ 0)) (opN p.rest) p.most p.msg.length ((lenN p.rest % half : Nat) : Int) (decide (half ≤ lenN p.rest)) = earlyL p := by
  unfold wrongRes earlyL
  have hE : errN p.rest ≠ 0 ↔ wrongN p.rest ≠ 0 ∨ shortB p.rest = true := by
    unfold errN
    by_cases h : wrongN p.rest = 0
    · cases h2 : shortB p.rest <;> simp [h]
    · simp [h]
  by_cases h1 : wrongN p.rest ≠ 0 ∨ hiB (at1 p.rest) = false ∨ shortB p.rest = true
  · rw [if_pos h1, if_pos]
    rcases h1 with h | h | h
    · exact .inl (hE.2 (.inl h))
    · exact .inr (.inl h)
    · exact .inl (hE.2 (.inr h))
  · rw [if_neg h1]
    by_cases h2 : (opN p.rest = 0 ∧ p.op = 0) ∨ ((opN p.rest = 1 ∨ opN p.rest = 2) ∧ p.op ≠ 0)
    · rw [if_pos h2, if_pos]
      refine .inr (.inr ?_)
      simpa using h2
    · rw [if_neg h2, if_neg]
      · have hop : isOpB (opN p.rest) = true := by
          have : wrongN p.rest = 0 := by
            by_cases h : wrongN p.rest = 0
            · exact h
            · exact absurd (.inl h) h1
          unfold wrongN at this
          split at this
          · cases this
          · split at this
            · cases this
            · rename_i h; simpa using h
        rw [control_op hop]
        by_cases h8 : opN p.rest < 8
        · by_cases hh : half ≤ lenN p.rest
          · simp [h8, hh]
          · have : lenN p.rest % half = lenN p.rest := Nat.mod_eq_of_lt (by omega)
            rw [this]
            simp [h8, hh]
        · simp [h8]
      · rintro (h | h | h | h)
        · rcases hE.1 h with h | h
          · exact h1 (.inl h)
          · exact h1 (.inr (.inr h))
        · exact h1 (.inr (.inl h))
        · exact h2 (.inl (by simpa using h))
        · exact h2 (.inr (by simpa using h))

theorem lenN_small {s : List UInt8} (h : moreN (at1 s) = 0) : lenN s ≤ 127 := by
  unfold lenN; rw [if_pos h]; have := Nat.mod_lt (at1 s).toNat (show 128 > 0 by decide); omega
theorem lenN_two {s : List UInt8} (h : moreN (at1 s) = 2) : lenN s ≤ 65535 := by
  unfold lenN; rw [if_neg (by omega), h]
  have h1 := bigN_lt ((s.drop 2).take 2)
  have h2 : ((s.drop 2).take 2).length ≤ 2 := by simp; omega
  have h3 : 256 ^ ((s.drop 2).take 2).length ≤ 256 ^ 2 := Nat.pow_le_pow_right (by decide) h2
  omega
theorem lenN_small' {s : List UInt8} (h : moreN (at1 s) = 0) : lenN s ≤ 125 := by
  unfold moreN at h
  have hm : lenN s = (at1 s).toNat % 128 := by unfold lenN; rw [if_pos (by unfold moreN; exact h)]
  have := Nat.mod_lt (at1 s).toNat (show 128 > 0 by decide)
  split at h
  · cases h
  · split at h
    · cases h
    · omega

/-- what a peer whose early test is passed knows of the head -/
structure Pass (p : RP) : Prop where
  wrong : wrongN p.rest = 0
  msk : hiB (at1 p.rest) = true
  isop : isOpB (opN p.rest) = true
  ctl : ¬ opN p.rest < 8 → moreN (at1 p.rest) = 0
  cont : opN p.rest = 0 → p.op ≠ 0
  start : opN p.rest = 1 ∨ opN p.rest = 2 → p.op = 0
  len : lenN p.rest < half
  data : opN p.rest < 8 → (lenN p.rest : Int) ≤ p.most - p.msg.length
theorem early_good {p : RP} (h : earlyL p = 0) : Pass p := by
  unfold earlyL at h
  split at h
  · cases h
  · rename_i h1
    split at h
    · cases h
    · rename_i h2
      have hw : wrongN p.rest = 0 := by
        by_cases h : wrongN p.rest = 0
        · exact h
        · exact absurd (.inl h) h1
      have hop : isOpB (opN p.rest) = true ∧ ¬ ((controlB (opN p.rest) && (!hiB (at0 p.rest) || decide (0 < moreN (at1 p.rest)))) = true) := by
        unfold wrongN at hw
        split at hw
        · cases hw
        · split at hw
          · cases hw
          · split at hw
            · cases hw
            · rename_i h h'; exact ⟨by simpa using h, h'⟩
      have hctl : ¬ opN p.rest < 8 → moreN (at1 p.rest) = 0 := by
        intro h8
        have := hop.2
        rw [control_op hop.1] at this
        simp [h8] at this
        omega
      have hd : opN p.rest < 8 → lenN p.rest < half ∧ (lenN p.rest : Int) ≤ p.most - p.msg.length := by
        intro h8
        split at h
        · cases h
        · rename_i h3
          constructor
          · apply Nat.lt_of_not_le
            intro hh; exact h3 ⟨h8, .inl hh⟩
          · apply Int.not_lt.1
            intro hh; exact h3 ⟨h8, .inr hh⟩
      refine ⟨hw, ?_, hop.1, hctl, ?_, ?_, ?_, fun h8 => (hd h8).2⟩
      · cases hm : hiB (at1 p.rest)
        · exact absurd (.inr (.inl hm)) h1
        · rfl
      · intro h0 hp; exact h2 (.inl ⟨h0, hp⟩)
      · intro h0
        by_cases hp : p.op = 0
        · exact hp
        · exact absurd (.inr ⟨h0, hp⟩) h2
      · by_cases h8 : opN p.rest < 8
        · exact (hd h8).1
        · have := lenN_small (hctl h8); unfold half; omega
theorem Pass.hsize {p : RP} (h : Pass p) : hsizeN (at1 p.rest) = 6 + moreN (at1 p.rest) := by unfold hsizeN; rw [h.msk]; simp; omega
theorem Pass.small {p : RP} (h : Pass p) (hm : p.most ≤ 16777216) : lenN p.rest ≤ 16777216 := by
  by_cases h8 : opN p.rest < 8
  · have := h.data h8; omega
  · have := lenN_small (h.ctl h8); omega
theorem bodyL_len {s : List UInt8} (h : hsizeN (at1 s) + lenN s ≤ s.length) : (bodyL s).length = lenN s := by
  unfold bodyL; rw [maskL_length]; simp; omega

theorem takeL_most (p : RP) (fin : Bool) (op : Int) (body : List UInt8) : (takeL p fin op body).1.most = p.most := by
  unfold takeL closingL; repeat' split
  all_goals rfl

/-- four bytes are spare while no message is under way -/
def slack (p : RP) : Nat := if p.op = 0 ∧ p.msg = [] then 4 else 0
theorem slack_le (p : RP) : slack p ≤ 4 := by unfold slack; split <;> omega
/-- how the lengths go in one round -/
theorem take_size {p : RP} (_hc : p.code = 0) (hg : Pass p) (hm : p.most ≤ 16777216) (hml : p.msg.length ≤ 16777216) (hlen : hsizeN (at1 p.rest) + lenN p.rest ≤ p.rest.length) {n T : Nat}
    (hsz : n + p.msg.length + p.rest.length ≤ T + slack p) (P' : RP) (ans : List UInt8)
    (h : takeL { p with rest := p.rest.drop (hsizeN (at1 p.rest) + lenN p.rest) } (hiB (at0 p.rest)) (opN p.rest) (bodyL p.rest) = (P', ans)) :
    P'.most = p.most ∧ P'.msg.length ≤ 16777216 ∧ n + ans.length ≤ T + 8 ∧ (P'.code = 0 → n + ans.length + P'.msg.length + P'.rest.length ≤ T + slack P' ∧ P'.rest.length < p.rest.length) := by
  have hbl := bodyL_len hlen
  have hhs := hg.hsize
  have hmost : P'.most = p.most := by
    have := takeL_most { p with rest := p.rest.drop (hsizeN (at1 p.rest) + lenN p.rest) } (hiB (at0 p.rest)) (opN p.rest) (bodyL p.rest)
    rw [h] at this; exact this
  have h4 := slack_le p
  refine ⟨hmost, ?_⟩
  have hcl : ∀ (q : RP) (code : Int), code ≠ 0 → closingL q code = (P', ans) →
      P'.msg.length ≤ 16777216 ∧ n + ans.length ≤ T + 8 ∧ (P'.code = 0 → n + ans.length + P'.msg.length + P'.rest.length ≤ T + slack P' ∧ P'.rest.length < p.rest.length) := by
    intro q code hcode hq
    have hl := closingL_len q code
    rw [hq] at hl
    have e1 : P' = (closingL q code).1 := by rw [hq]
    subst e1
    refine ⟨by simp [closingL], by simp only at hl; omega, fun h0 => absurd h0 hcode⟩
  have hrl : (p.rest.drop (hsizeN (at1 p.rest) + lenN p.rest)).length = p.rest.length - (hsizeN (at1 p.rest) + lenN p.rest) := by simp
  rcases isOp_cases hg.isop with ho | ho | ho | ho | ho | ho
  case inr.inr.inr.inl =>
    rw [ho] at h
    simp only [takeL, show ¬ ((8 : Int) = 9) by decide, show ¬ ((8 : Int) = 10) by decide, if_false, if_true] at h
    split at h
    · rename_i h0; exact hcl _ _ (parseClose_ne _ h0) h
    · split at h
      · exact hcl _ _ (by decide) h
      · exact hcl _ _ (by decide) h
  case inr.inr.inr.inr.inl =>
    rw [ho] at h
    simp only [takeL, if_true] at h
    injection h with e1 e2
    have hm0 := hg.ctl (by omega)
    have hl := sayL_len 10 (bodyL p.rest)
    rw [e2, hbl] at hl
    have h125 := lenN_small' hm0
    have hmo : moreL (lenN p.rest) = 0 := by unfold moreL; rw [if_pos h125]
    rw [hmo] at hl
    subst e1
    have hs5 : slack { p with rest := p.rest.drop (hsizeN (at1 p.rest) + lenN p.rest) } = slack p := rfl
    simp only [hrl, hs5]
    refine ⟨hml, by omega, fun _ => ⟨by omega, by omega⟩⟩
  case inr.inr.inr.inr.inr =>
    rw [ho] at h
    simp only [takeL, show ¬ ((10 : Int) = 9) by decide, if_false, if_true] at h
    injection h with e1 e2
    subst e1 e2
    have hs5 : slack { p with rest := p.rest.drop (hsizeN (at1 p.rest) + lenN p.rest) } = slack p := rfl
    simp only [hrl, hs5, List.length_nil]
    refine ⟨hml, by omega, fun _ => ⟨by omega, by omega⟩⟩
  all_goals
    have hd := hg.data (by omega)
    have hn9 : ¬ opN p.rest = 9 := by omega
    have hn10 : ¬ opN p.rest = 10 := by omega
    have hn8 : ¬ opN p.rest = 8 := by omega
    have hq0 : (if opN p.rest = 0 then p.op else opN p.rest) ≠ 0 := by
      by_cases h0 : opN p.rest = 0
      · rw [if_pos h0]; exact hg.cont h0
      · rw [if_neg h0]; exact h0
    simp only [takeL, hn9, hn10, hn8, if_false] at h
    generalize hq : (if opN p.rest = 0 then p.op else opN p.rest) = q at *
    split at h
    · injection h with e1 e2
      subst e1 e2
      simp only [hrl, List.length_nil, List.length_append, hbl]
      refine ⟨by omega, by omega, fun _ => ⟨by omega, by omega⟩⟩
    · split at h
      · exact hcl _ _ (by decide) h
      · injection h with e1 e2
        have hl := sayL_len q (p.msg ++ bodyL p.rest)
        rw [e2, List.length_append, hbl] at hl
        subst e1
        simp only [hrl, List.length_nil]
        have hmo : moreL (p.msg.length + lenN p.rest) ≤ 8 := by unfold moreL; split; omega; split <;> omega
        have hs9 : ∀ (e : Int) r c mo, slack ⟨mo, r, [], 0, c, e⟩ = 4 := fun _ _ _ _ => rfl
        rw [hs9]
        have key : ans.length + slack p ≤ 4 + 6 + moreN (at1 p.rest) + lenN p.rest + p.msg.length := by
          by_cases hp : p.op = 0 ∧ p.msg = []
          · have hsl : slack p = 4 := by unfold slack; rw [if_pos hp]
            have hm0 : p.msg.length = 0 := by rw [hp.2]; rfl
            rw [hm0, Nat.zero_add] at hl
            have : moreL (lenN p.rest) ≤ 4 + moreN (at1 p.rest) := by
              rcases moreN_cases (at1 p.rest) with hmn | hmn | hmn
              · have := lenN_small' hmn; unfold moreL; rw [if_pos this]; omega
              · have := lenN_two hmn; unfold moreL; split; omega; first | omega | (split <;> omega)
              · unfold moreL; split; omega; split <;> omega
            omega
          · have hsl : slack p = 0 := by unfold slack; rw [if_neg hp]
            omega
        exact ⟨by omega, by omega, fun _ => ⟨by omega, by omega⟩⟩

theorem Touch.trans' {a b c : World} {D E : Nat → Prop} (h : Touch a b D) (k : Touch b c E) (hd : ∀ i, i < a.heap.size → E i → D i) : Touch a c D :=
  ⟨k.os.trans h.os, k.tape.trans h.tape, k.output.trans h.output, Nat.le_trans h.size k.size,
    fun i hi he => (k.block i (Nat.lt_of_lt_of_le hi h.size) (fun x => he (hd i hi x))).trans (h.block i hi he)⟩

/-- the memory at each round's head of Feed: the peer, the builder, and whose blocks are whose -/
structure Mem (w wr : World) (base b bb : Nat) (v : Value) (p : RP) (out : List UInt8) (v' vb : Value) (u : Bool) : Prop where
  peer : PeerAt wr base b p v'
  bld : BldAt wr w.heap.size bb u vb out
  touch : Touch w wr (Own b v)
  msg : v'.ownBlock = none ∨ v'.ownBlock = v.ownBlock ∨ ∀ g, v'.ownBlock = some g → w.heap.size ≤ g
  low : b < w.heap.size
  apart2 : v'.ownBlock ≠ some bb
  apart4 : ∀ g, vb.ownBlock = some g → v'.ownBlock ≠ some g
theorem Mem.vb_ge {w wr : World} {base b bb : Nat} {v : Value} {p : RP} {out : List UInt8} {v' vb : Value} {u : Bool} (h : Mem w wr base b bb v p out v' vb u) {g : Nat} (hg : vb.ownBlock = some g) : w.heap.size ≤ g ∧ g < wr.heap.size := h.bld.2.2.1.lt hg
theorem BldAt.keep {w w' : World} {base b : Nat} {u : Bool} {v : Value} {l : List UInt8} (h : BldAt w base b u v l) (hb : w'.heap[b]? = w.heap[b]?) (hv : ∀ g, v.ownBlock = some g → w'.heap[g]? = w.heap[g]?) : BldAt w' base b u v l := by
  obtain ⟨hB, hbk, hown, hne⟩ := h
  exact ⟨hB, hb.trans hbk, hown.keep hv, hne⟩
theorem BldAt.lt {w : World} {base b : Nat} {u : Bool} {v : Value} {l : List UInt8} (h : BldAt w base b u v l) : b < w.heap.size := lt_of h.2.1
/-- the builder behind a method of the peer -/
theorem Mem.bld' {w wr w2 : World} {base b bb : Nat} {v : Value} {p : RP} {out : List UInt8} {v' vb : Value} {u : Bool} (h : Mem w wr base b bb v p out v' vb u) (ht : Touch wr w2 (Own b v')) : BldAt w2 w.heap.size bb u vb out := by
  have hbb := h.bld.1
  have hlow := h.low
  refine h.bld.keep (ht.block bb h.bld.lt ?_) fun g hg => ht.block g (h.vb_ge hg).2 ?_
  · rintro (rfl | hq)
    · omega
    · exact h.apart2 hq
  · rintro (rfl | hq)
    · have := (h.vb_ge hg).1; omega
    · exact h.apart4 g hg hq
theorem Mem.below {w wr w2 : World} {base b bb : Nat} {v : Value} {p : RP} {out : List UInt8} {v' vb : Value} {u : Bool} (h : Mem w wr base b bb v p out v' vb u) (hb : Below wr.heap.size wr w2) : Mem w w2 base b bb v p out v' vb u :=
  ⟨h.peer.below hb (Nat.le_refl _), h.bld.keep (hb.block bb h.bld.lt) fun g hg => hb.block g (h.vb_ge hg).2, h.touch.below hb (Nat.le_refl _), h.msg, h.low, h.apart2, h.apart4⟩
/-- one step: a method of the peer, then what it says is written -/
theorem Mem.step {w wr w1 w2 w3 : World} {base b bb : Nat} {v : Value} {p p' : RP} {out out' : List UInt8} {v' v'' vb vb' : Value} {u : Bool} (h : Mem w wr base b bb v p out v' vb u)
    (h1 : Touch wr w1 (Own b v')) (hl : Left w1 w2 base b p' v' v'') (h3 : BldAt w3 w.heap.size bb true vb' out') (h4 : Touch w2 w3 (Own bb vb))
    (h5 : vb'.ownBlock = vb.ownBlock ∨ ∀ g, vb'.ownBlock = some g → w2.heap.size ≤ g) : Mem w w3 base b bb v p' out' v'' vb' true := by
  obtain ⟨hp2, ht2, hv2⟩ := hl
  have hbb := h.bld.1
  have hbbl := h.bld.lt
  have hlow := h.low
  have hs1 := h1.size
  have hs2 := ht2.size
  have hsw := h.touch.size
  have hvl : ∀ g, v''.ownBlock = some g → g < w2.heap.size := fun g hg => (hp2.2.2.1.lt hg).2
  have hap2 : v''.ownBlock ≠ some bb := by
    intro hq
    rcases hv2 with e | e | e
    · rw [e] at hq; cases hq
    · exact h.apart2 (e.symm.trans hq)
    · have := e bb hq; omega
  have hap4 : ∀ g, vb.ownBlock = some g → v''.ownBlock ≠ some g := by
    intro g hg hq
    rcases hv2 with e | e | e
    · rw [e] at hq; cases hq
    · exact h.apart4 g hg (e.symm.trans hq)
    · have := e g hq; have := (h.vb_ge hg).2; omega
  refine ⟨hp2.keep (h4.block b (by have := hp2.lt; omega) ?_) fun g hg => h4.block g (hvl g hg) ?_, h3, ?_, ?_, hlow, hap2, ?_⟩
  · rintro (e | e)
    · omega
    · have := (h.vb_ge e).1; omega
  · rintro (e | e)
    · subst e; exact hap2 hg
    · exact hap4 g e hg
  · have hE : ∀ i, i < w.heap.size → Own b v' i → Own b v i := by
      intro i hi hd
      rcases hd with rfl | hd
      · exact .inl rfl
      · rcases h.msg with e | e | e
        · rw [e] at hd; cases hd
        · exact .inr (e.symm.trans hd)
        · have := e i hd; omega
    refine ((h.touch.trans' h1 hE).trans' ht2 hE).trans' h4 ?_
    intro i hi hd
    rcases hd with rfl | hd
    · omega
    · have := (h.vb_ge hd).1; omega
  · rcases hv2 with e | e | e
    · exact .inl e
    · rcases h.msg with m | m | m
      · exact .inl (e.trans m)
      · exact .inr (.inl (e.trans m))
      · exact .inr (.inr fun g hg => m g (e.symm.trans hg))
    · exact .inr (.inr fun g hg => by have := e g hg; omega)
  · intro g hg hq
    rcases h5 with e | e
    · exact hap4 g (e.symm.trans hg) hq
    · have := e g hg; have := hvl g hq; omega
theorem Mem.fin {w wr w6 : World} {base b bb : Nat} {v : Value} {p : RP} {out : List UInt8} {v' vb : Value} {u : Bool} (h : Mem w wr base b bb v p out v' vb u) (h4 : Touch wr w6 (Own bb vb)) : Left w w6 base b p v v' := by
  have hbb := h.bld.1
  have hlow := h.low
  refine ⟨h.peer.keep (h4.block b h.peer.lt ?_) fun g hg => h4.block g (h.peer.2.2.1.lt hg).2 ?_, h.touch.trans' h4 ?_, h.msg⟩
  · rintro (e | e)
    · omega
    · have := (h.vb_ge e).1; omega
  · rintro (e | e)
    · subst e; exact h.apart2 hg
    · exact h.apart4 g e hg
  · intro i hi hd
    rcases hd with rfl | hd
    · omega
    · have := (h.vb_ge hd).1; omega
end Go.Proofs.YtmgfpjfamdbhbaaDoor
