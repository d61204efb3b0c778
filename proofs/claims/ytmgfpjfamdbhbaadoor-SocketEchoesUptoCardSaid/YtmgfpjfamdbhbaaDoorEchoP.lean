/- Messages come back whole: the plain law of the stream that a client says. -/
import Derived.Test.YtmgfpjfamdbhbaaDoorLCuts
import Derived.Test.YtmgfpjfamdbhbaaDoorHeadP
namespace Go.Proofs.YtmgfpjfamdbhbaaDoor
open Go.RowKit

def mkL : List UInt8 := [5, 0, 255, 119]
/-- a client's frame -/
def cL (op : Int) (fin : Bool) (body : List UInt8) : List UInt8 := (printL fin true op mkL body).1
theorem fine_data' {op : Int} (fin : Bool) {body : List UInt8} (h : op = 0 ∨ op = 1 ∨ op = 2) (hl : body.length ≤ 16777216) : Fine fin true op mkL body := by
  refine ⟨?_, rfl, ?_, by unfold half; omega⟩
  · rcases h with rfl | rfl | rfl <;> decide
  · intro hc; rcases h with rfl | rfl | rfl <;> exact absurd hc (by decide)
theorem fine_ctl' {op : Int} {body : List UInt8} (h : op = 8 ∨ op = 9) (hl : body.length ≤ 125) : Fine true true op mkL body := by
  refine ⟨?_, rfl, fun _ => ⟨rfl, hl⟩, by unfold half; omega⟩
  rcases h with rfl | rfl <;> decide
theorem cL_size {op : Int} {fin : Bool} {body : List UInt8} (h : Fine fin true op mkL body) : (cL op fin body).length ≤ body.length + 14 := by
  have T := tells h []
  rw [List.append_nil] at T
  have hlen := T.total
  have := hsizeN_le (at1 (printL fin true op mkL body).1)
  rw [T.len] at hlen
  simp only [List.length_nil] at hlen
  unfold cL
  omega
/-- one frame fed -/
theorem feed_frame {p : RP} (hr : p.rest = []) (hc : p.code = 0) {fin : Bool} {op : Int} {body : List UInt8} (hf : Fine fin true op mkL body)
    (h0 : op = 0 → p.op ≠ 0) (h12 : op = 1 ∨ op = 2 → p.op = 0) (hd : op < 8 → (body.length : Int) ≤ p.most - p.msg.length) : feedL p (cL op fin body) = takeL p fin op body := by
  have T := tells hf []
  rw [List.append_nil] at T
  have hlen := T.total
  simp only [List.length_nil, Nat.add_zero] at hlen
  have hz := hsizeN_le (at1 (printL fin true op mkL body).1)
  obtain ⟨most, rest, msg, po, code, ech⟩ := p
  simp only at hr hc h0 h12 hd
  subst hr hc
  unfold cL
  generalize (printL fin true op mkL body).1 = F at *
  rw [feedL, if_neg (by simp)]
  obtain ⟨k, hk⟩ : ∃ k, F.length = k + 1 := ⟨F.length - 1, by omega⟩
  have he : earlyL ⟨most, F, msg, po, 0, ech⟩ = 0 := by
    unfold earlyL
    simp only [T.wrong, T.hi1, T.short, T.op, T.len]
    rw [if_neg (by simp), if_neg, if_neg]
    · rintro ⟨h8, h | h⟩
      · have := hf.len; omega
      · have := hd h8; omega
    · rintro (⟨h1, h2⟩ | ⟨h1, h2⟩)
      · exact h0 h1 h2
      · exact h2 (h12 h1)
  have hst := feedGo_take (k := k + 1) (p := ⟨most, F, msg, po, 0, ech⟩) (out := []) rfl T.ok he (by show ¬ F.length < hsizeN (at1 F) + lenN F; omega)
  simp only [T.drop, T.hi0, T.op, T.body] at hst
  simp only [List.length_nil, Nat.zero_add, List.nil_append, hk]
  rw [hst, List.nil_append]
  have hre := take_rest ⟨most, [], msg, po, 0, ech⟩ fin op body
  simp only [List.length_nil, Nat.le_zero] at hre
  generalize takeL ⟨most, [], msg, po, 0, ech⟩ fin op body = R at *
  obtain ⟨q, o⟩ := R
  simp only at hre ⊢
  by_cases hq : q.code ≠ 0
  · rw [feedGo, if_pos hq]
  · rw [feedGo, if_neg hq, if_pos]
    have : q.rest = [] := List.eq_nil_of_length_eq_zero hre
    rw [this]; rfl

/-- the peer between messages, and within one -/
def idleL (M : Int) (n : Int) : RP := ⟨M, [], [], 0, 0, n⟩
/-- where a message stands: what of it was said, what is to come, with which kind -/
def Part (op : Int) (body msg rest : List UInt8) (o kind : Int) : Prop := (msg = [] ∧ rest = body ∧ o = 0 ∧ kind = op) ∨ (msg ++ rest = body ∧ o = op ∧ kind = 0)
theorem part_more {op : Int} (ho : op = 1 ∨ op = 2) {body msg rest : List UInt8} {o kind : Int} (h : Part op body msg rest o kind) {M : Int} (hM : (body.length : Int) ≤ M) (hb : body.length ≤ 16777216) (n : Int) (k : Nat) :
    feedL ⟨M, [], msg, o, 0, n⟩ (cL kind false (rest.take k)) = (⟨M, [], msg ++ rest.take k, op, 0, n⟩, []) ∧ Part op body (msg ++ rest.take k) (rest.drop k) op 0 ∧ Fine false true kind mkL (rest.take k) := by
  have hl : msg.length + rest.length ≤ body.length ∧ (kind = 0 ∨ kind = 1 ∨ kind = 2) := by
    rcases h with ⟨rfl, rfl, _, rfl⟩ | ⟨h1, _, rfl⟩
    · exact ⟨by simp, by omega⟩
    · rw [← h1]; exact ⟨by simp, .inl rfl⟩
  have htl : (rest.take k).length ≤ rest.length := by rw [List.length_take]; omega
  have hF := fine_data' false hl.2 (body := rest.take k) (by omega)
  have hpart : Part op body (msg ++ rest.take k) (rest.drop k) op 0 := by
    right
    refine ⟨?_, rfl, rfl⟩
    rcases h with ⟨rfl, rfl, _, _⟩ | ⟨h1, _, _⟩
    · simp
    · rw [List.append_assoc, List.take_append_drop, h1]
  refine ⟨?_, hpart, hF⟩
  rw [feed_frame (p := ⟨M, [], msg, o, 0, n⟩) rfl rfl hF]
  · unfold takeL
    rw [if_neg (by omega), if_neg (by omega), if_neg (by omega), if_pos rfl]
    rcases h with ⟨_, _, rfl, rfl⟩ | ⟨_, rfl, rfl⟩
    · rw [if_neg (by omega)]
    · rw [if_pos rfl]
  · rcases h with ⟨_, _, rfl, rfl⟩ | ⟨_, rfl, rfl⟩
    · intro h; omega
    · intro _; show o ≠ 0; omega
  · rcases h with ⟨_, _, rfl, rfl⟩ | ⟨_, rfl, rfl⟩
    · intro _; rfl
    · intro h; omega
  · intro _; show ((rest.take k).length : Int) ≤ M - msg.length; omega
theorem ping_echo {p : RP} (hr : p.rest = []) (hc : p.code = 0) {ping : List UInt8} (hl : ping.length ≤ 125) : feedL p (cL 9 true ping) = (p, sayL 10 ping) := by
  rw [feed_frame hr hc (fine_ctl' (.inr rfl) hl) (by intro h; omega) (by intro h; omega) (by intro h; omega)]
  unfold takeL
  rw [if_pos rfl]
theorem part_last {op : Int} (ho : op = 1 ∨ op = 2) {body msg rest : List UInt8} {o kind : Int} (h : Part op body msg rest o kind) {M : Int} (hM : (body.length : Int) ≤ M) (hb : body.length ≤ 16777216) (n : Int) (hv : op = 1 → Lib.validD body = true) :
    feedL ⟨M, [], msg, o, 0, n⟩ (cL kind true rest) = (idleL M (wrap64 (n + 1)), sayL op body) ∧ Fine true true kind mkL rest := by
  have hl : msg.length + rest.length ≤ body.length ∧ (kind = 0 ∨ kind = 1 ∨ kind = 2) := by
    rcases h with ⟨rfl, rfl, _, rfl⟩ | ⟨h1, _, rfl⟩
    · exact ⟨by simp, by omega⟩
    · rw [← h1]; exact ⟨by simp, .inl rfl⟩
  have hF := fine_data' true hl.2 (body := rest) (by omega)
  have hbody : msg ++ rest = body := by
    rcases h with ⟨rfl, rfl, _, _⟩ | ⟨h1, _, _⟩
    · rfl
    · exact h1
  have hop : (if kind = 0 then o else kind) = op := by
    rcases h with ⟨_, _, rfl, rfl⟩ | ⟨_, rfl, rfl⟩
    · rw [if_neg (by omega)]
    · rw [if_pos rfl]
  refine ⟨?_, hF⟩
  rw [feed_frame (p := ⟨M, [], msg, o, 0, n⟩) rfl rfl hF]
  · unfold takeL
    rw [if_neg (by omega), if_neg (by omega), if_neg (by omega), if_neg (by simp)]
    simp only [hop, hbody]
    rw [if_neg]
    · rfl
    · rintro ⟨h1, h2⟩
      rw [hv h1] at h2; cases h2
  · rcases h with ⟨_, _, rfl, rfl⟩ | ⟨_, rfl, rfl⟩
    · intro h; omega
    · intro _; show o ≠ 0; omega
  · rcases h with ⟨_, _, rfl, rfl⟩ | ⟨_, rfl, rfl⟩
    · intro _; rfl
    · intro h; omega
  · intro _; show (rest.length : Int) ≤ M - msg.length; omega
/-- the closing call -/
theorem bye_law (M n : Int) (s : List UInt8) : feedL (idleL M n) (cL 8 true [3, 232] ++ s) = (⟨M, [], [], 0, 1000, n⟩, [136, 2, 3, 232]) := by
  have hF : Fine true true 8 mkL [3, 232] := fine_ctl' (.inl rfl) (by decide)
  have h1 : feedL (idleL M n) (cL 8 true [3, 232]) = (⟨M, [], [], 0, 1000, n⟩, [136, 2, 3, 232]) := by
    rw [feed_frame (p := idleL M n) rfl rfl hF (by intro h; omega) (by intro h; omega) (by intro h; omega)]
    have e : parseCloseL [3, 232] = (1000, [], 0) := by decide +kernel
    unfold takeL
    rw [if_neg (by decide), if_neg (by decide), if_pos rfl, e, if_pos rfl]
    have e2 : sayL 8 (if (1000 : Int) = 1005 then [] else (closeL 1000 []).1) = [136, 2, 3, 232] := by decide +kernel
    unfold closingL idleL
    simp only [e2]
  rw [feedL_append, h1]
  simp [feedL]
end Go.Proofs.YtmgfpjfamdbhbaaDoor
