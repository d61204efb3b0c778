/- How the lengths go over a whole Feed: plain laws. -/
import Derived.Test.YtmgfpjfamdbhbaaDoorRFeed
import Derived.Test.YtmgfpjfamdbhbaaDoorRowP
namespace Go.Proofs.YtmgfpjfamdbhbaaDoor
open Go.RowKit

theorem take_held (p : RP) (fin : Bool) (op : Int) (body : List UInt8) : (takeL p fin op body).1.msg.length + (takeL p fin op body).1.rest.length ≤ p.msg.length + p.rest.length + body.length := by
  obtain ⟨most, rest, msg, o, code, ech⟩ := p
  simp only [takeL, closingL]
  by_cases h9 : op = 9
  · simp [h9]
  by_cases h10 : op = 10
  · simp [h10]
  by_cases h8 : op = 8
  · simp only [h8, if_true, if_false, show ¬ ((8 : Int) = 9) by decide, show ¬ ((8 : Int) = 10) by decide]
    by_cases h0 : (parseCloseL body).2.2 = 0
    · simp [h0]
    · by_cases h1 : (parseCloseL body).2.2 = 223
      · simp [h1]
      · simp [h0, h1]
  simp only [h9, h10, h8, if_false]
  by_cases hf : fin = false
  · simp [hf]; omega
  simp only [hf, if_false, Bool.true_eq_false]
  by_cases hv : (if op = 0 then o else op) = 1 ∧ Lib.validD (msg ++ body) = false
  · simp only [if_pos hv]; simp
  · simp only [if_neg hv]; simp; omega
/-- a peer holds no more bytes than came -/
theorem feedGo_held (k : Nat) : ∀ (p : RP) (out : List UInt8), (feedGo k p out).1.msg.length + (feedGo k p out).1.rest.length ≤ p.msg.length + p.rest.length := by
  induction k with
  | zero => intro p out; simp [feedGo]
  | succ k ih =>
    intro p out
    rw [feedGo]
    split
    · exact Nat.le_refl _
    split
    · exact Nat.le_refl _
    split
    · simp [closingL]
    split
    · exact Nat.le_refl _
    · rename_i h4
      refine Nat.le_trans (ih _ _) (Nat.le_trans (take_held _ _ _ _) ?_)
      have := bodyL_len (s := p.rest) (by omega)
      rw [this]
      show p.msg.length + (p.rest.drop _).length + _ ≤ _
      rw [List.length_drop]; omega
theorem feed_held (p : RP) (s : List UInt8) : (feedL p s).1.msg.length + (feedL p s).1.rest.length ≤ p.msg.length + p.rest.length + s.length := by
  unfold feedL
  split
  · show p.msg.length + p.rest.length ≤ _; omega
  · refine Nat.le_trans (feedGo_held _ _ _) ?_
    show p.msg.length + (p.rest ++ s).length ≤ _
    rw [List.length_append]; omega
/-- the lengths over the rounds -/
theorem feedGo_rm {T : Nat} (k : Nat) : ∀ (p : RP) (out : List UInt8), RM T p out → RM T (feedGo k p out).1 (feedGo k p out).2 := by
  induction k with
  | zero => intro p out h; exact h
  | succ k ih =>
    intro p out h
    by_cases hc : p.code ≠ 0
    · rw [feedGo, if_pos hc]; exact h
    by_cases hok : headOk p.rest = false
    · rw [feedGo, if_neg hc, if_pos hok]; exact h
    have hc0 : p.code = 0 := by simpa using hc
    have hsz := h.size hc0
    by_cases he : earlyL p ≠ 0
    · rw [feedGo, if_neg hc, if_neg hok, if_pos he]
      refine ⟨h.most, by simp [closingL], ?_, fun h => absurd h he⟩
      rw [List.length_append]
      have := closingL_len p (earlyL p)
      have := slack_le p
      omega
    by_cases hl : p.rest.length < hsizeN (at1 p.rest) + lenN p.rest
    · rw [feedGo, if_neg hc, if_neg hok, if_neg he, if_pos hl]; exact h
    rw [feedGo, if_neg hc, if_neg hok, if_neg he, if_neg hl]
    have hg := early_good (show earlyL p = 0 by simpa using he)
    obtain ⟨P', ans, hTL⟩ : ∃ P' ans, takeL { p with rest := p.rest.drop (hsizeN (at1 p.rest) + lenN p.rest) } (hiB (at0 p.rest)) (opN p.rest) (bodyL p.rest) = (P', ans) := ⟨_, _, rfl⟩
    have hs := take_size hc0 hg h.most.2 h.msgs (by omega) hsz P' ans hTL
    rw [hTL]
    refine ih _ _ ⟨by rw [hs.1]; exact h.most, hs.2.1, ?_, fun h => ?_⟩
    · rw [List.length_append]; exact hs.2.2.1
    · rw [List.length_append]; exact (hs.2.2.2 h).1
/-- after a Feed: the limit, the message, the answer -/
structure After (T : Nat) (p q : RP) (o : List UInt8) : Prop where
  most : q.most = p.most
  msgs : q.msg.length ≤ 16777216
  out : o.length ≤ T + 8
theorem feedGo_most (k : Nat) : ∀ (p : RP) (out : List UInt8), (feedGo k p out).1.most = p.most := by
  induction k with
  | zero => intro p out; rfl
  | succ k ih =>
    intro p out
    rw [feedGo]
    split
    · rfl
    split
    · rfl
    split
    · rfl
    split
    · rfl
    · rw [ih, takeL_most]
theorem feed_after (p : RP) (s : List UInt8) (hm : 0 ≤ p.most ∧ p.most ≤ 16777216) (hml : p.msg.length ≤ 16777216) : After (p.msg.length + p.rest.length + s.length) p (feedL p s).1 (feedL p s).2 := by
  unfold feedL
  split
  · exact ⟨rfl, hml, by simp⟩
  · have := feedGo_rm (T := p.msg.length + p.rest.length + s.length) (p.rest.length + s.length + 1) { p with rest := p.rest ++ s } [] ⟨hm, hml, by simp, fun _ => by simp only [List.length_nil, List.length_append]; omega⟩
    exact ⟨feedGo_most _ _ _, this.msgs, this.sizo⟩
end Go.Proofs.YtmgfpjfamdbhbaaDoor
