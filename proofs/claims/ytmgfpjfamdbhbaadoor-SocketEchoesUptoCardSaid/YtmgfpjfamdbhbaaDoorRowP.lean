/- What a peer says is a row of whole frames, a closing one last; what it holds is bounded: plain laws. -/
import Derived.Test.YtmgfpjfamdbhbaaDoorFlow
import Derived.Test.YtmgfpjfamdbhbaaDoorHeadP
import Derived.Test.YtmgfpjfamdbhbaaDoorRParse
import Derived.Test.YtmgfpjfamdbhbaaDoorSmallM
namespace Go.Proofs.YtmgfpjfamdbhbaaDoor
open Go.RowKit

theorem parse_said {op : Int} {body : List UInt8} (h : Fine true false op [] body) (x : List UInt8) (hl : body.length ≤ 16777216) :
    parseL (sayL op body ++ x) 16777216 = (⟨true, false, op, [], body⟩, ((sayL op body).length : Int), 0) := by
  have T := tells h x
  have hs : sayL op body = (printL true false op [] body).1 := rfl
  rw [← hs] at T
  have hE : errN (sayL op body ++ x) = 0 := by unfold errN; rw [if_neg (by rw [T.wrong]; simp), T.short]; rfl
  have hlen := T.total
  rw [List.length_append] at hlen
  rw [parseL, if_neg (by decide), if_neg (by rw [T.ok]; simp), if_neg (by rw [hE]; simp), if_neg, if_neg, T.hi0, T.hi1, T.op, T.mask]
  · have hb := T.body
    unfold bodyL at hb
    rw [T.mask] at hb
    rw [hb]
    congr 2
    omega
  · rw [List.length_append]; omega
  · rw [T.len]
    rintro ⟨_, h1 | h1⟩
    · unfold half at h1; omega
    · omega
theorem said_ne {op : Int} {body : List UInt8} (h : Fine true false op [] body) : 2 ≤ (sayL op body).length := by
  unfold sayL
  rw [h.print]
  simp only [List.length_cons, List.length_append, lenL_length]
  omega

/-- frames, the closing one last where the peer is closed -/
def RowOf (closed : Bool) : List (Int × List UInt8) → Prop
  | [] => closed = false
  | f :: r => Fine true false f.1 [] f.2 ∧ f.2.length ≤ 16777216 ∧ (if f.1 = 8 then r = [] ∧ closed = true else RowOf closed r)
def flatL (l : List (Int × List UInt8)) : List UInt8 := l.flatMap fun f => sayL f.1 f.2

/-- what holds of an open peer at each round's head -/
structure Sane (p : RP) : Prop where
  most : 0 ≤ p.most ∧ p.most ≤ 16777216
  msgs : (p.msg.length : Int) ≤ p.most
  op : p.op = 0 ∨ p.op = 1 ∨ p.op = 2
theorem fine_close (code : Int) : Fine true false 8 [] (if code = 1005 then [] else (closeL code []).1) := by
  have h2 : (if code = 1005 then ([] : List UInt8) else (closeL code []).1).length ≤ 2 := by split; simp; exact closeL_len code
  exact ⟨by decide, rfl, fun _ => ⟨rfl, by omega⟩, by unfold half; omega⟩
theorem close_short (code : Int) : (if code = 1005 then ([] : List UInt8) else (closeL code []).1).length ≤ 16777216 := by
  split
  · simp
  · have := closeL_len code; omega
theorem row_closing (p : RP) (code : Int) (h : code ≠ 0) : ∃ fs, (closingL p code).2 = flatL fs ∧ RowOf (decide ((closingL p code).1.code ≠ 0)) fs := by
  refine ⟨[(8, if code = 1005 then [] else (closeL code []).1)], by simp [flatL, closingL], fine_close code, close_short code, ?_⟩
  rw [if_pos rfl]
  exact ⟨rfl, by rw [closing_code]; simpa using h⟩
theorem fine_data {op : Int} {body : List UInt8} (h : op = 1 ∨ op = 2) (hl : body.length ≤ 16777216) : Fine true false op [] body := by
  refine ⟨?_, rfl, ?_, by unfold half; omega⟩
  · rcases h with rfl | rfl <;> decide
  · intro hc; rcases h with rfl | rfl <;> exact absurd hc (by decide)
theorem fine_pong {op : Int} {body : List UInt8} (h : op = 9 ∨ op = 10) (hl : body.length ≤ 125) : Fine true false op [] body := by
  refine ⟨?_, rfl, fun _ => ⟨rfl, hl⟩, by unfold half; omega⟩
  rcases h with rfl | rfl <;> decide
/-- one frame taken -/
theorem row_take {p : RP} (hs : Sane p) (hc : p.code = 0) (fin : Bool) (op : Int) (body : List UInt8) (hop : isOpB op = true) (h8 : ¬ op < 8 → body.length ≤ 125) (hd : op < 8 → (body.length : Int) ≤ p.most - p.msg.length) (h0 : op = 0 → p.op ≠ 0) :
    ∃ fs, (takeL p fin op body).2 = flatL fs ∧ RowOf (decide ((takeL p fin op body).1.code ≠ 0)) fs ∧ ((takeL p fin op body).1.code = 0 → Sane (takeL p fin op body).1) := by
  have hoc := isOp_cases hop
  have hmost := hs.most
  have hmsg := hs.msgs
  unfold takeL
  by_cases c9 : op = 9
  · rw [if_pos c9]
    have hb := h8 (by omega)
    refine ⟨[(10, body)], by simp [flatL], ⟨fine_pong (.inr rfl) hb, by show body.length ≤ _; omega, ?_⟩, fun _ => hs⟩
    rw [if_neg (show ¬ (10 : Int) = 8 by decide)]
    simpa [RowOf] using hc
  rw [if_neg c9]
  by_cases c10 : op = 10
  · rw [if_pos c10]; exact ⟨[], rfl, by simpa [RowOf] using hc, fun _ => hs⟩
  rw [if_neg c10]
  by_cases c8 : op = 8
  · rw [if_pos c8]
    have key : ∀ c, c ≠ 0 → ∃ fs, (closingL p c).2 = flatL fs ∧ RowOf (decide ((closingL p c).1.code ≠ 0)) fs ∧ ((closingL p c).1.code = 0 → Sane (closingL p c).1) := by
      intro c h
      obtain ⟨fs, h1, h2⟩ := row_closing p c h
      exact ⟨fs, h1, h2, fun h3 => absurd h3 h⟩
    split
    · rename_i h; exact key _ (parseClose_ne body h)
    · split
      · exact key _ (by decide)
      · exact key _ (by decide)
  rw [if_neg c8]
  have h012 : op = 0 ∨ op = 1 ∨ op = 2 := by omega
  have hlen := hd (by omega)
  have hpo : (if op = 0 then p.op else op) = 1 ∨ (if op = 0 then p.op else op) = 2 := by
    by_cases q : op = 0
    · rw [if_pos q]; have := h0 q; have := hs.op; omega
    · rw [if_neg q]; omega
  by_cases cf : fin = false
  · rw [if_pos cf]
    refine ⟨[], rfl, by simpa [RowOf] using hc, fun _ => ⟨hmost, ?_, ?_⟩⟩
    · show ((p.msg ++ body).length : Int) ≤ p.most; rw [List.length_append]; omega
    · show (if op = 0 then p.op else op) = 0 ∨ _ ∨ _; rcases hpo with h | h <;> rw [h] <;> simp
  rw [if_neg cf]
  have hbl : (p.msg ++ body).length ≤ 16777216 := by rw [List.length_append]; omega
  by_cases hv : (if op = 0 then p.op else op) = 1 ∧ Lib.validD (p.msg ++ body) = false
  · rw [if_pos hv]
    obtain ⟨fs, h1, h2⟩ := row_closing { p with op := if op = 0 then p.op else op, msg := p.msg ++ body } 1007 (by decide)
    exact ⟨fs, h1, h2, fun h3 => absurd h3 (by rw [closing_code]; decide)⟩
  · rw [if_neg hv]
    refine ⟨[((if op = 0 then p.op else op), p.msg ++ body)], by simp [flatL], ⟨fine_data hpo hbl, hbl, ?_⟩, fun _ => ⟨hmost, by show ((0 : Nat) : Int) ≤ p.most; omega, .inl rfl⟩⟩
    rw [if_neg (by show ¬ (if op = 0 then p.op else op) = 8; rcases hpo with h | h <;> rw [h] <;> decide)]
    simpa [RowOf] using hc
theorem row_append (c : Bool) : ∀ (a b : List (Int × List UInt8)), RowOf false a → RowOf c b → RowOf c (a ++ b) := by
  intro a
  induction a with
  | nil => intro b _ h; exact h
  | cons f r ih =>
    intro b h hb
    obtain ⟨h1, h2, h3⟩ := h
    refine ⟨h1, h2, ?_⟩
    by_cases e : f.1 = 8
    · rw [if_pos e] at h3; cases h3.2
    · rw [if_neg e] at h3 ⊢; exact ih b h3 hb
theorem feedGo_short' {k : Nat} {p : RP} {out : List UInt8} (h : p.code = 0) (h2 : headOk p.rest = false) : feedGo (k + 1) p out = (p, out) := by rw [feedGo, if_neg (by simp [h]), if_pos h2]
theorem take_shut (p : RP) (fin : Bool) (op : Int) (body : List UInt8) (hc : p.code = 0) (h : (takeL p fin op body).1.code ≠ 0) : (takeL p fin op body).1.msg.length + (takeL p fin op body).1.rest.length = 0 := by
  obtain ⟨most, rest, msg, o, code, ech⟩ := p
  obtain rfl : code = 0 := hc
  simp only [takeL, closingL] at h ⊢
  by_cases h9 : op = 9
  · simp [h9] at h
  by_cases h10 : op = 10
  · simp [h10] at h
  by_cases h8 : op = 8
  · simp only [h8, if_true, if_false, show ¬ ((8 : Int) = 9) by decide, show ¬ ((8 : Int) = 10) by decide]
    by_cases h0 : (parseCloseL body).2.2 = 0
    · simp [h0]
    · by_cases h1 : (parseCloseL body).2.2 = 223
      · simp [h1]
      · simp [h0, h1]
  simp only [h9, h10, h8, if_false] at h ⊢
  by_cases hf : fin = false
  · simp [hf] at h
  simp only [hf, if_false, Bool.true_eq_false] at h ⊢
  by_cases hv : (if op = 0 then o else op) = 1 ∧ Lib.validD (msg ++ body) = false
  · simp only [if_pos hv]; rfl
  · simp only [if_neg hv] at h; exact absurd rfl h
/-- what Feed leaves behind -/
structure Fed (most : Int) (q : RP) (o : List UInt8) : Prop where
  rows : ∃ fs, o = flatL fs ∧ RowOf (decide (q.code ≠ 0)) fs
  held : ((q.msg.length + q.rest.length : Nat) : Int) ≤ most + 14 + max most 125
  shut : q.code ≠ 0 → q.msg.length + q.rest.length = 0
theorem row_feed (k : Nat) : ∀ p : RP, Sane p → p.code = 0 → p.rest.length < k → Fed p.most (feedGo k p []).1 (feedGo k p []).2 := by
  induction k with
  | zero => intro p _ _ h; omega
  | succ k ih =>
    intro p hs hc hk
    have hmost := hs.most
    have hmsg := hs.msgs
    have hmx : (125 : Int) ≤ max p.most 125 := Int.le_max_right _ _
    have hmx2 : p.most ≤ max p.most 125 := Int.le_max_left _ _
    have stop : ((p.msg.length + p.rest.length : Nat) : Int) ≤ p.most + 14 + max p.most 125 → Fed p.most p [] := fun h =>
      ⟨⟨[], rfl, by simpa [RowOf] using hc⟩, h, fun h => absurd hc h⟩
    by_cases hok : headOk p.rest = true
    case neg =>
      have hok' : headOk p.rest = false := by simpa using hok
      rw [show feedGo (k + 1) p [] = (p, []) from feedGo_short' hc hok']
      refine stop ?_
      have hz := (hsizeN_le (at1 p.rest)).2
      unfold headOk at hok'
      rw [Bool.and_eq_false_iff, decide_eq_false_iff_not, decide_eq_false_iff_not] at hok'
      have : p.rest.length ≤ 13 := by omega
      omega
    by_cases he : earlyL p ≠ 0
    · rw [show feedGo (k + 1) p [] = ((closingL p (earlyL p)).1, [] ++ (closingL p (earlyL p)).2) from by rw [feedGo, if_neg (by simp [hc]), if_neg (by simp [hok]), if_pos he], List.nil_append]
      refine ⟨row_closing p _ he, ?_, fun _ => rfl⟩
      show ((0 + 0 : Nat) : Int) ≤ _
      omega
    have he0 : earlyL p = 0 := by simpa using he
    have hg := early_good he0
    by_cases hl : p.rest.length < hsizeN (at1 p.rest) + lenN p.rest
    · rw [show feedGo (k + 1) p [] = (p, []) from by rw [feedGo, if_neg (by simp [hc]), if_neg (by simp [hok]), if_neg he, if_pos hl]]
      refine stop ?_
      have hz := (hsizeN_le (at1 p.rest)).2
      by_cases h8 : opN p.rest < 8
      · have := hg.data h8; omega
      · have := lenN_small' (hg.ctl h8); omega
    have hst : feedGo (k + 1) p [] = feedGo k (takeL { p with rest := p.rest.drop (hsizeN (at1 p.rest) + lenN p.rest) } (hiB (at0 p.rest)) (opN p.rest) (bodyL p.rest)).1
        ([] ++ (takeL { p with rest := p.rest.drop (hsizeN (at1 p.rest) + lenN p.rest) } (hiB (at0 p.rest)) (opN p.rest) (bodyL p.rest)).2) := by
      rw [feedGo, if_neg (by simp [hc]), if_neg (by simp [hok]), if_neg he, if_neg hl]
    rw [hst, List.nil_append, feedGo_out]
    have hbl := bodyL_len (s := p.rest) (by omega)
    have hS : Sane { p with rest := p.rest.drop (hsizeN (at1 p.rest) + lenN p.rest) } := ⟨hs.most, hs.msgs, hs.op⟩
    have hT := row_take hS hc (hiB (at0 p.rest)) (opN p.rest) (bodyL p.rest) hg.isop (fun h => by rw [hbl]; exact lenN_small' (hg.ctl h)) (fun h => by rw [hbl]; exact hg.data h) hg.cont
    have hmo := takeL_most { p with rest := p.rest.drop (hsizeN (at1 p.rest) + lenN p.rest) } (hiB (at0 p.rest)) (opN p.rest) (bodyL p.rest)
    have hre := take_rest { p with rest := p.rest.drop (hsizeN (at1 p.rest) + lenN p.rest) } (hiB (at0 p.rest)) (opN p.rest) (bodyL p.rest)
    have hzero := take_shut { p with rest := p.rest.drop (hsizeN (at1 p.rest) + lenN p.rest) } (hiB (at0 p.rest)) (opN p.rest) (bodyL p.rest) hc
    have hz := (hsizeN_le (at1 p.rest)).1
    have hdl : (p.rest.drop (hsizeN (at1 p.rest) + lenN p.rest)).length ≤ p.rest.length - 2 := by rw [List.length_drop]; omega
    generalize takeL { p with rest := p.rest.drop (hsizeN (at1 p.rest) + lenN p.rest) } (hiB (at0 p.rest)) (opN p.rest) (bodyL p.rest) = T at *
    obtain ⟨q, o⟩ := T
    simp only at hT hmo hre hzero ⊢
    obtain ⟨fs, hfo, hrow, hsane⟩ := hT
    by_cases hqc : q.code ≠ 0
    · obtain ⟨k', rfl⟩ : ∃ k', k = k' + 1 := ⟨k - 1, by omega⟩
      rw [show feedGo (k' + 1) q [] = (q, []) from by rw [feedGo, if_pos hqc]]
      simp only [List.append_nil]
      refine ⟨⟨fs, hfo, hrow⟩, ?_, fun _ => hzero hqc⟩
      rw [hzero hqc]; omega
    · have hq0 : q.code = 0 := by simpa using hqc
      have hI := ih q (hsane hq0) hq0 (by omega)
      obtain ⟨⟨gs, hgo, hgr⟩, hh, hz2⟩ := hI
      rw [hmo] at hh
      refine ⟨⟨fs ++ gs, ?_, ?_⟩, hh, hz2⟩
      · rw [hfo, hgo]; simp [flatL]
      · rw [show decide (q.code ≠ 0) = false by simp [hq0]] at hrow
        exact row_append _ _ _ hrow hgr
/-- the whole of it, for a new peer -/
theorem row_new (most : Int) (s : List UInt8) (h0 : 0 ≤ most) (h1 : most ≤ 16777216) : Fed most (feedL (newL most) s).1 (feedL (newL most) s).2 := by
  rw [feedL, if_neg (by simp [newL])]
  exact row_feed _ { newL most with rest := (newL most).rest ++ s } ⟨⟨h0, h1⟩, h0, .inl rfl⟩ rfl (by simp [newL])
end Go.Proofs.YtmgfpjfamdbhbaaDoor
