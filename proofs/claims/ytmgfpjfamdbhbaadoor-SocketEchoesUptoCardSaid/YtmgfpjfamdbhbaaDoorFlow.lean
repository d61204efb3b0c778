/- How a peer's stream is cut has no part: the plain law of feedL. No condition but that the peer's limit is one. -/
import Derived.Test.YtmgfpjfamdbhbaaDoorFeedP
namespace Go.Proofs.YtmgfpjfamdbhbaaDoor
open Go.RowKit

theorem getD_app (s b : List UInt8) (i : Nat) (h : i < s.length) : (s ++ b).getD i 0 = s.getD i 0 := by
  rw [List.getD_eq_getElem?_getD, List.getD_eq_getElem?_getD, List.getElem?_append_left h]
/-- what a head tells does not hang on what stands behind it -/
structure SameHead (s t : List UInt8) : Prop where
  at0 : at0 t = at0 s
  at1 : at1 t = at1 s
  ok : headOk t = true
  len : lenN t = lenN s
  op : opN t = opN s
  mask : maskOf t = maskOf s
  short : shortB t = shortB s
  wrong : wrongN t = wrongN s
theorem headOk_le {s : List UInt8} (h : headOk s = true) : 2 ≤ s.length ∧ hsizeN (at1 s) ≤ s.length := by
  unfold headOk at h; simpa using h
theorem sameHead {s : List UInt8} (h : headOk s = true) (b : List UInt8) : SameHead s (s ++ b) := by
  obtain ⟨h1, h2⟩ := headOk_le h
  have e0 : Proofs.YtmgfpjfamdbhbaaDoor.at0 (s ++ b) = Proofs.YtmgfpjfamdbhbaaDoor.at0 s := getD_app _ _ _ (by omega)
  have e1 : Proofs.YtmgfpjfamdbhbaaDoor.at1 (s ++ b) = Proofs.YtmgfpjfamdbhbaaDoor.at1 s := getD_app _ _ _ (by omega)
  have hm : 2 + moreN (Proofs.YtmgfpjfamdbhbaaDoor.at1 s) ≤ s.length := by unfold hsizeN at h2; omega
  have el : lenN (s ++ b) = lenN s := by
    unfold lenN
    rw [e1, List.drop_append_of_le_length h1, List.take_append_of_le_length (by rw [List.length_drop]; omega)]
  have eo : opN (s ++ b) = opN s := by unfold opN; rw [e0]
  have em : maskOf (s ++ b) = maskOf s := by
    unfold maskOf
    rw [e1]
    by_cases hh : hiB (Proofs.YtmgfpjfamdbhbaaDoor.at1 s) = true
    · have : 6 ≤ hsizeN (Proofs.YtmgfpjfamdbhbaaDoor.at1 s) := by unfold hsizeN; rw [if_pos hh]; omega
      rw [if_pos hh, if_pos hh, List.drop_append_of_le_length (by omega), List.take_append_of_le_length (by rw [List.length_drop]; omega)]
    · rw [if_neg hh, if_neg hh]
  refine ⟨e0, e1, ?_, el, eo, em, ?_, ?_⟩
  · unfold headOk; rw [e1, List.length_append]; simp; omega
  · unfold shortB; rw [e1, el]
  · unfold wrongN; rw [e0, e1, eo]

/-- a peer to which more bytes came -/
def RP.plus (p : RP) (b : List UInt8) : RP := { p with rest := p.rest ++ b }
theorem early_plus {p : RP} (h : headOk p.rest = true) (b : List UInt8) : earlyL (p.plus b) = earlyL p := by
  have e := sameHead h b
  unfold earlyL
  show (if wrongN (p.rest ++ b) ≠ 0 ∨ hiB (at1 (p.rest ++ b)) = false ∨ shortB (p.rest ++ b) = true then (1002 : Int) else if (opN (p.rest ++ b) = 0 ∧ p.op = 0) ∨ ((opN (p.rest ++ b) = 1 ∨ opN (p.rest ++ b) = 2) ∧ p.op ≠ 0) then 1002
    else if opN (p.rest ++ b) < 8 ∧ (half ≤ lenN (p.rest ++ b) ∨ p.most - p.msg.length < lenN (p.rest ++ b)) then 1009 else 0) = _
  rw [e.at1, e.len, e.op, e.short, e.wrong]
theorem closing_plus (p : RP) (b : List UInt8) (c : Int) : closingL (p.plus b) c = closingL p c := rfl
theorem body_plus {s : List UInt8} (h : headOk s = true) (h2 : ¬ s.length < hsizeN (at1 s) + lenN s) (b : List UInt8) : bodyL (s ++ b) = bodyL s := by
  have e := sameHead h b
  unfold bodyL
  rw [e.at1, e.len, e.mask, List.drop_append_of_le_length (by omega), List.take_append_of_le_length (by rw [List.length_drop]; omega)]
theorem closing_code (p : RP) (c : Int) : (closingL p c).1.code = c := rfl
/-- take does not look at what is to come -/
theorem take_plus (p : RP) (b : List UInt8) (fin : Bool) (op : Int) (body : List UInt8) (hc : p.code = 0) :
    takeL (p.plus b) fin op body = if (takeL p fin op body).1.code ≠ 0 then takeL p fin op body else ((takeL p fin op body).1.plus b, (takeL p fin op body).2) := by
  obtain ⟨most, rest, msg, o, code, ech⟩ := p
  obtain rfl : code = 0 := hc
  simp only [RP.plus, takeL, closingL]
  by_cases h9 : op = 9
  · simp [h9]
  by_cases h10 : op = 10
  · simp [h10]
  by_cases h8 : op = 8
  · have hn := parseClose_ne body
    generalize parseCloseL body = P at *
    obtain ⟨a, b2, c⟩ := P
    simp only at hn
    simp only [h8, if_true, if_false, show ¬ ((8 : Int) = 9) by decide, show ¬ ((8 : Int) = 10) by decide]
    by_cases h0 : c = 0
    · simp only [h0, if_true]; rw [if_pos (hn h0)]
    · by_cases h1 : c = 223
      · simp [h1]
      · simp [h0, h1]
  simp only [h9, h10, h8, if_false]
  by_cases hf : fin = false
  · simp [hf]
  simp only [hf, if_false, Bool.true_eq_false]
  by_cases hv : (if op = 0 then o else op) = 1 ∧ Lib.validD (msg ++ body) = false
  · simp only [if_pos hv]; simp; exact hv
  · simp only [if_neg hv]; simp; exact fun a => by simpa [a] using hv
theorem take_rest (p : RP) (fin : Bool) (op : Int) (body : List UInt8) : (takeL p fin op body).1.rest.length ≤ p.rest.length := by
  unfold takeL closingL
  repeat' split
  all_goals simp

theorem feedGo_out (k : Nat) : ∀ (p : RP) (out : List UInt8), feedGo k p out = ((feedGo k p []).1, out ++ (feedGo k p []).2) := by
  induction k with
  | zero => intro p out; simp [feedGo]
  | succ k ih =>
    intro p out
    unfold feedGo
    split
    · simp
    split
    · simp
    split
    · simp
    split
    · simp
    · rw [ih _ (out ++ _), ih _ ([] ++ _)]; simp
theorem feedGo_fuel (k : Nat) : ∀ (p : RP) (K : Nat), p.rest.length < k → k ≤ K → feedGo K p [] = feedGo k p [] := by
  induction k with
  | zero => intro p K h; omega
  | succ k ih =>
    intro p K h hK
    obtain ⟨K, rfl⟩ : ∃ K', K = K' + 1 := ⟨K - 1, by omega⟩
    rw [feedGo, feedGo]
    split
    · rfl
    split
    · rfl
    split
    · rfl
    split
    · rfl
    · rename_i h1 h2 h3 h4
      rw [feedGo_out, feedGo_out k, ih]
      · refine Nat.lt_of_le_of_lt (take_rest _ _ _ _) ?_
        have := (hsizeN_le (at1 p.rest)).1
        show (p.rest.drop _).length < k
        rw [List.length_drop]; omega
      · omega
theorem feedGo_rest (k : Nat) : ∀ (p : RP) (out : List UInt8), (feedGo k p out).1.rest.length ≤ p.rest.length := by
  induction k with
  | zero => intro p out; simp [feedGo]
  | succ k ih =>
    intro p out
    rw [feedGo]
    split
    · exact Nat.le_refl _
    split
    · exact Nat.le_refl _
    split
    · simp [closingL]
    split
    · exact Nat.le_refl _
    · refine Nat.le_trans (ih _ _) (Nat.le_trans (take_rest _ _ _ _) ?_)
      show (p.rest.drop _).length ≤ _
      rw [List.length_drop]; omega
/-- what a peer says to bytes, and what becomes of it -/
theorem feedGo_plus (k : Nat) : ∀ (p : RP) (b : List UInt8) (K : Nat), p.code = 0 → p.rest.length < k → (p.rest ++ b).length < K →
    feedGo K (p.plus b) [] = if (feedGo k p []).1.code ≠ 0 then feedGo k p [] else ((feedGo K ((feedGo k p []).1.plus b) []).1, (feedGo k p []).2 ++ (feedGo K ((feedGo k p []).1.plus b) []).2) := by
  induction k with
  | zero => intro p b K _ h; omega
  | succ k ih =>
    intro p b K hc h hK
    by_cases hok : headOk p.rest = true
    case neg =>
      have hok' : headOk p.rest = false := by simpa using hok
      rw [show feedGo (k + 1) p [] = (p, []) from by rw [feedGo, if_neg (by simp [hc]), if_pos hok'], if_neg (by simp [hc])]
      simp
    obtain ⟨K, rfl⟩ : ∃ K', K = K' + 1 := ⟨K - 1, by omega⟩
    have e := sameHead hok b
    by_cases he : earlyL p ≠ 0
    · rw [show feedGo (k + 1) p [] = ((closingL p (earlyL p)).1, [] ++ (closingL p (earlyL p)).2) from by rw [feedGo, if_neg (by simp [hc]), if_neg (by simp [hok]), if_pos he]]
      rw [if_pos (by rw [closing_code]; exact he)]
      rw [feedGo, if_neg (by show ¬ p.code ≠ 0; simp [hc]), if_neg (by show ¬ headOk (p.rest ++ b) = false; rw [e.ok]; simp), early_plus hok, if_pos he, closing_plus]
    by_cases hl : p.rest.length < hsizeN (at1 p.rest) + lenN p.rest
    · rw [show feedGo (k + 1) p [] = (p, []) from by rw [feedGo, if_neg (by simp [hc]), if_neg (by simp [hok]), if_neg he, if_pos hl], if_neg (by simp [hc])]
      simp
    have hst : feedGo (k + 1) p [] = feedGo k (takeL { p with rest := p.rest.drop (hsizeN (at1 p.rest) + lenN p.rest) } (hiB (at0 p.rest)) (opN p.rest) (bodyL p.rest)).1
        ([] ++ (takeL { p with rest := p.rest.drop (hsizeN (at1 p.rest) + lenN p.rest) } (hiB (at0 p.rest)) (opN p.rest) (bodyL p.rest)).2) := by
      rw [feedGo, if_neg (by simp [hc]), if_neg (by simp [hok]), if_neg he, if_neg hl]
    have hq : ({ p.plus b with rest := (p.rest ++ b).drop (hsizeN (at1 (p.rest ++ b)) + lenN (p.rest ++ b)) } : RP) = ({ p with rest := p.rest.drop (hsizeN (at1 p.rest) + lenN p.rest) } : RP).plus b := by
      rw [e.at1, e.len, List.drop_append_of_le_length (by omega)]; rfl
    have hst2 : feedGo (K + 1) (p.plus b) [] = feedGo K (takeL (({ p with rest := p.rest.drop (hsizeN (at1 p.rest) + lenN p.rest) } : RP).plus b) (hiB (at0 p.rest)) (opN p.rest) (bodyL p.rest)).1
        ([] ++ (takeL (({ p with rest := p.rest.drop (hsizeN (at1 p.rest) + lenN p.rest) } : RP).plus b) (hiB (at0 p.rest)) (opN p.rest) (bodyL p.rest)).2) := by
      rw [feedGo, if_neg (by show ¬ p.code ≠ 0; simp [hc]), if_neg (by show ¬ headOk (p.rest ++ b) = false; rw [e.ok]; simp), early_plus hok, if_neg he]
      rw [show (p.plus b).rest = p.rest ++ b from rfl, if_neg (by rw [e.at1, e.len, List.length_append]; omega), hq, e.at0, e.op, body_plus hok hl]
    rw [hst, hst2]
    have hlen := take_rest { p with rest := p.rest.drop (hsizeN (at1 p.rest) + lenN p.rest) } (hiB (at0 p.rest)) (opN p.rest) (bodyL p.rest)
    have htp := take_plus { p with rest := p.rest.drop (hsizeN (at1 p.rest) + lenN p.rest) } b (hiB (at0 p.rest)) (opN p.rest) (bodyL p.rest) hc
    rw [htp]
    have h2 := (hsizeN_le (at1 p.rest)).1
    have hdl : (p.rest.drop (hsizeN (at1 p.rest) + lenN p.rest)).length ≤ p.rest.length - 2 := by rw [List.length_drop]; omega
    rw [List.length_append] at hK
    generalize takeL { p with rest := p.rest.drop (hsizeN (at1 p.rest) + lenN p.rest) } (hiB (at0 p.rest)) (opN p.rest) (bodyL p.rest) = T at *
    obtain ⟨q, o⟩ := T
    simp only at hlen ⊢
    have hqk : q.rest.length < k := by omega
    by_cases hqc : q.code ≠ 0
    · rw [if_pos hqc]
      have h1 : ∀ n, feedGo (n + 1) q ([] ++ o) = (q, [] ++ o) := fun n => by rw [feedGo, if_pos hqc]
      obtain ⟨k', rfl⟩ : ∃ k', k = k' + 1 := ⟨k - 1, by omega⟩
      obtain ⟨K', rfl⟩ : ∃ K', K = K' + 1 := ⟨K - 1, by omega⟩
      rw [h1, h1, if_pos hqc]
    · rw [if_neg hqc]
      have hq0 : q.code = 0 := by simpa using hqc
      have hI := ih q b K hq0 hqk (by rw [List.length_append]; omega)
      rw [feedGo_out K, feedGo_out k q, hI]
      generalize hR : feedGo k q [] = R at *
      obtain ⟨r, ro⟩ := R
      simp only
      by_cases hr : r.code ≠ 0
      · rw [if_pos hr, if_pos hr]
      · rw [if_neg hr, if_neg hr]
        have hrl : r.rest.length ≤ q.rest.length := by
          have := feedGo_rest k q []
          rw [hR] at this; exact this
        rw [feedGo_fuel K (r.plus b) (K + 1) (by show (r.rest ++ b).length < K; rw [List.length_append]; omega) (by omega)]
        simp
end Go.Proofs.YtmgfpjfamdbhbaaDoor
