/- What the head of a printed frame tells, when more stands behind it; no condition. -/
import Derived.Test.YtmgfpjfamdbhbaaDoorFeedP
namespace Go.Proofs.YtmgfpjfamdbhbaaDoor
open Go.RowKit

theorem highL_snoc (n k : Nat) : highL n (k + 1) = highL (n / 256) k ++ [UInt8.ofNat n] := by
  apply List.ext_getElem
  · simp [highL, highTo]
  · intro i h1 h2
    have hi : i < k + 1 := by simpa [highL, highTo] using h1
    by_cases e : i = k
    · subst e
      rw [List.getElem_append_right (by simp [highL, highTo])]
      simp [highL, highTo]
    · rw [List.getElem_append_left (by simp [highL, highTo]; omega)]
      simp only [highL, highTo, List.getElem_map, List.getElem_range, Nat.not_lt_zero, if_false]
      rw [show k + 1 - 1 - i = (k - 1 - i) + 1 by omega, shr8, Nat.shiftRight_eq_div_pow, Nat.shiftRight_eq_div_pow, Nat.div_div_eq_div_mul, Nat.div_div_eq_div_mul, Nat.mul_comm]
theorem bigN_high (k : Nat) : ∀ n, bigN (highL n k) = n % 256 ^ k := by
  induction k with
  | zero => intro n; simp [highL, highTo, bigN, Nat.mod_one]
  | succ k ih =>
    intro n
    rw [highL_snoc, bigN_snoc, ih]
    have h1 : (UInt8.ofNat n).toNat = n % 256 := by simp
    rw [h1, Nat.pow_succ, Nat.mul_comm (256 ^ k) 256, Nat.mod_mul]
    omega
theorem highL_length (n k : Nat) : (highL n k).length = k := by simp [highL, highTo]

/-- the byte that tells the length -/
def lenB (msk : Bool) (n : Nat) : UInt8 := UInt8.ofNat ((if n ≤ 125 then n else if n ≤ 65535 then 126 else 127) + if msk then 128 else 0)
theorem lenL_eq (msk : Bool) (n : Nat) : lenL msk n = lenB msk n :: highL n (moreL n) := by
  unfold lenL lenB moreL
  split
  · simp [highL, highTo]
  · split <;> rfl
theorem lenB_nat (msk : Bool) (n : Nat) : (lenB msk n).toNat = (if n ≤ 125 then n else if n ≤ 65535 then 126 else 127) + if msk then 128 else 0 := by
  unfold lenB
  have : (if n ≤ 125 then n else if n ≤ 65535 then 126 else 127) + (if msk = true then 128 else 0) < 256 := by
    split
    · split <;> omega
    · split <;> split <;> omega
  rw [UInt8.toNat_ofNat', Nat.mod_eq_of_lt this]
theorem lenB_more (msk : Bool) (n : Nat) : moreN (lenB msk n) = moreL n := by
  have h := lenB_nat msk n
  unfold moreN moreL
  rw [h]
  by_cases h1 : n ≤ 125
  · simp only [h1, if_true]
    cases msk <;> simp <;> (repeat' split) <;> omega
  · by_cases h2 : n ≤ 65535
    · simp only [h1, h2, if_true, if_false]
      cases msk <;> simp
    · simp only [h1, h2, if_false]
      cases msk <;> simp
theorem lenB_hi (msk : Bool) (n : Nat) : hiB (lenB msk n) = msk := by
  have h := lenB_nat msk n
  unfold hiB
  rw [h]
  by_cases h1 : n ≤ 125
  · simp only [h1, if_true]
    cases msk <;> simp <;> omega
  · by_cases h2 : n ≤ 65535
    · simp only [h1, h2, if_true, if_false]
      cases msk <;> simp
    · simp only [h1, h2, if_false]
      cases msk <;> simp
theorem lenB_mod (msk : Bool) (n : Nat) (h1 : n ≤ 125) : (lenB msk n).toNat % 128 = n := by
  rw [lenB_nat]; simp only [h1, if_true]; cases msk <;> simp <;> omega
theorem firstB_nat (fin : Bool) (op : Int) (h : isOpB op = true) : (firstB fin op).toNat = op.toNat + if fin then 128 else 0 := by
  unfold firstB
  have := isOp_cases h
  have : op.toNat + (if fin = true then 128 else 0) < 256 := by split <;> omega
  rw [UInt8.toNat_ofNat', Nat.mod_eq_of_lt this]
theorem maskTo_twice (b m : List UInt8) (k : Nat) (h : k = b.length) : maskTo (maskTo b m k) m k = b := by
  apply List.ext_getElem
  · simp [maskTo]
  · intro i h1 h2
    have hi : i < b.length := by simpa [maskTo] using h1
    simp only [maskTo, List.getElem_mapIdx]
    rw [if_pos (by omega), if_pos (by omega), UInt8.xor_assoc, UInt8.xor_self, UInt8.xor_zero]
theorem maskL_twice (b m : List UInt8) : maskL (maskL b m) m = b := by
  unfold maskL
  split
  · rw [maskTo_length, maskTo_twice _ _ _ rfl]
  · rfl

/-- a frame that can be printed -/
structure Fine (fin msk : Bool) (op : Int) (mask body : List UInt8) : Prop where
  isop : isOpB op = true
  msk4 : mask.length = if msk then 4 else 0
  ctl : controlB op = true → fin = true ∧ body.length ≤ 125
  len : body.length < half
theorem fine_of {fin msk : Bool} {op : Int} {mask body : List UInt8} (h : (printL fin msk op mask body).2 = 0) (hl : body.length < half) : Fine fin msk op mask body := by
  unfold printL at h
  split at h
  · cases h
  · rename_i h1
    split at h
    · cases h
    · rename_i h2
      split at h
      · cases h
      · rename_i h3
        refine ⟨by simpa using h1, ?_, ?_, hl⟩
        · cases msk
          · simp at h2; simp [h2]
          · simp at h2; simp [h2]
        · intro hc
          simp [hc] at h3
          exact ⟨h3.1, by omega⟩
theorem Fine.print {fin msk : Bool} {op : Int} {mask body : List UInt8} (h : Fine fin msk op mask body) :
    printL fin msk op mask body = (firstB fin op :: (lenL msk body.length ++ (mask ++ maskL body mask)), 0) := by
  obtain ⟨h1, h2, h3, _⟩ := h
  unfold printL
  rw [if_neg (by simp [h1]), if_neg, if_neg]
  · intro hx
    simp only [Bool.and_eq_true, Bool.or_eq_true, Bool.not_eq_true', decide_eq_true_eq] at hx
    have := h3 hx.1
    rcases hx.2 with h | h
    · rw [this.1] at h; cases h
    · omega
  · cases msk
    · simp at h2; simp [h2]
    · simp at h2; simp [h2]

/-- what the head of a text tells that begins with a printed frame -/
structure Tells (s : List UInt8) (fin msk : Bool) (op : Int) (mask body x : List UInt8) : Prop where
  ok : headOk s = true
  hi0 : hiB (at0 s) = fin
  hi1 : hiB (at1 s) = msk
  op : opN s = op
  more : moreN (at1 s) = moreL body.length
  size : hsizeN (at1 s) = 2 + moreL body.length + if msk then 4 else 0
  len : lenN s = body.length
  wrong : wrongN s = 0
  short : shortB s = false
  mask : maskOf s = mask
  body : bodyL s = body
  drop : s.drop (hsizeN (at1 s) + lenN s) = x
  total : s.length = hsizeN (at1 s) + lenN s + x.length
theorem dropN {α : Type} (a b : List α) (n : Nat) (h : a.length = n) : (a ++ b).drop n = b := by
  rw [List.drop_append_of_le_length (by omega), List.drop_of_length_le (by omega), List.nil_append]
theorem moreL_cases (n : Nat) : (n ≤ 125 ∧ moreL n = 0) ∨ (125 < n ∧ n ≤ 65535 ∧ moreL n = 2) ∨ (65535 < n ∧ moreL n = 8) := by
  unfold moreL
  split
  · left; exact ⟨by assumption, rfl⟩
  · split
    · right; left; exact ⟨by omega, by assumption, rfl⟩
    · right; right; exact ⟨by omega, rfl⟩
theorem tells {fin msk : Bool} {op : Int} {mask body : List UInt8} (h : Fine fin msk op mask body) (x : List UInt8) :
    Tells ((printL fin msk op mask body).1 ++ x) fin msk op mask body x := by
  rw [h.print]
  have hm := h.msk4
  have hml : (maskL body mask).length = body.length := maskL_length _ _
  have hhl := highL_length body.length (moreL body.length)
  have hLB := lenB_more msk body.length
  have hHI := lenB_hi msk body.length
  have hfn := firstB_nat fin op h.isop
  have hoc := isOp_cases h.isop
  have hmc := moreL_cases body.length
  obtain ⟨s, hs⟩ : ∃ s, s = firstB fin op :: (lenL msk body.length ++ (mask ++ maskL body mask)) ++ x := ⟨_, rfl⟩
  have hs2 : s = firstB fin op :: lenB msk body.length :: (highL body.length (moreL body.length) ++ (mask ++ (maskL body mask ++ x))) := by
    rw [hs, lenL_eq]; simp
  show Tells (firstB fin op :: (lenL msk body.length ++ (mask ++ maskL body mask)) ++ x) _ _ _ _ _ _
  rw [← hs]
  have e0 : at0 s = firstB fin op := by rw [hs2]; rfl
  have e1 : at1 s = lenB msk body.length := by rw [hs2]; rfl
  have ed2 : s.drop 2 = highL body.length (moreL body.length) ++ (mask ++ (maskL body mask ++ x)) := by rw [hs2]; rfl
  have emore : moreN (at1 s) = moreL body.length := by rw [e1, hLB]
  have ehi1 : hiB (at1 s) = msk := by rw [e1, hHI]
  have esize : hsizeN (at1 s) = 2 + moreL body.length + if msk then 4 else 0 := by unfold hsizeN; rw [emore, ehi1]
  have esm : hsizeN (at1 s) = 2 + moreL body.length + mask.length := by rw [esize, hm]
  have elen : s.length = hsizeN (at1 s) + body.length + x.length := by
    rw [esm]; have : s.length = 1 + 1 + (moreL body.length + (mask.length + (body.length + x.length))) := by rw [hs2]; simp only [List.length_cons, List.length_append, hhl, hml]; omega
    omega
  have elenN : lenN s = body.length := by
    unfold lenN
    rw [emore]
    split
    · rename_i h0
      rw [e1]
      exact lenB_mod _ _ (by omega)
    · rw [ed2, List.take_append_of_le_length (by omega), List.take_of_length_le (by omega), bigN_high]
      apply Nat.mod_eq_of_lt
      have := h.len
      unfold half at this
      rcases hmc with q | q | q
      · omega
      · rw [q.2.2]; omega
      · rw [q.2]; omega
  have eop : opN s = op := by
    unfold opN
    rw [e0, hfn]
    rcases hoc with q | q | q | q | q | q <;> rw [q] <;> cases fin <;> rfl
  have emask : maskOf s = mask := by
    unfold maskOf
    rw [ehi1]
    cases msk
    · simp at hm; simp [hm]
    · simp only [if_true] at hm ⊢
      rw [esm, hm, show 2 + moreL body.length + 4 - 4 = 2 + moreL body.length by omega, ← List.drop_drop, ed2, List.drop_append_of_le_length (by omega), List.drop_of_length_le (by omega), List.nil_append,
        List.take_append_of_le_length (by omega), List.take_of_length_le (by omega)]
  have edrop : s.drop (hsizeN (at1 s)) = maskL body mask ++ x := by
    rw [esm, Nat.add_assoc, ← List.drop_drop, ed2, ← List.drop_drop, dropN _ _ _ hhl, dropN _ _ _ rfl]
  refine ⟨?_, ?_, ehi1, eop, emore, esize, elenN, ?_, ?_, emask, ?_, ?_, ?_⟩
  · unfold headOk
    have := (hsizeN_le (at1 s)).1
    simp only [Bool.and_eq_true, decide_eq_true_eq]; omega
  · rw [e0]; unfold hiB; rw [hfn]
    rcases hoc with q | q | q | q | q | q <;> rw [q] <;> cases fin <;> rfl
  · unfold wrongN
    rw [if_neg, eop, if_neg (by rw [h.isop]; simp), if_neg]
    · intro hx
      rw [emore, show hiB (at0 s) = fin from ?_] at hx
      · simp only [Bool.and_eq_true, Bool.or_eq_true, Bool.not_eq_true', decide_eq_true_eq] at hx
        have := h.ctl hx.1
        rcases hx.2 with h | h
        · rw [this.1] at h; cases h
        · omega
      · rw [e0]; unfold hiB; rw [hfn]
        rcases hoc with q | q | q | q | q | q <;> rw [q] <;> cases fin <;> rfl
    · rw [e0, hfn]
      rcases hoc with q | q | q | q | q | q <;> rw [q] <;> cases fin <;> decide
  · unfold shortB
    rw [emore, elenN]
    rcases hmc with q | q | q
    · rw [q.2]; rfl
    · rw [q.2.2]; simp; omega
    · rw [q.2]; simp; omega
  · unfold bodyL
    rw [edrop, elenN, emask, List.take_append_of_le_length (by omega), List.take_of_length_le (by omega), maskL_twice]
  · rw [elenN, ← List.drop_drop, edrop, List.drop_append_of_le_length (by omega), List.drop_of_length_le (by omega), List.nil_append]
  · rw [elenN, elen]
end Go.Proofs.YtmgfpjfamdbhbaaDoor
