/- The reference's character test is Go's; no condition. -/
import Derived.Lib.ValidLaws
namespace Go.Proofs.YtmgfpjfamdbhbaaDoor
open Go.Lib

/-- how many bytes a first byte asks for; 0: it is none -/
def wideN (c : Nat) : Nat := if c < 128 then 1 else if 194 ≤ c ∧ c < 224 then 2 else if 224 ≤ c ∧ c < 240 then 3 else if 240 ≤ c ∧ c < 245 then 4 else 0
def contB (b : Nat) : Bool := decide (128 ≤ b ∧ b ≤ 191)
/-- is the number v, of n bytes, no character? -/
def noneB (n : Nat) (v : Int) : Bool := decide ((n = 3 ∧ v < 2048) ∨ (n = 4 ∧ v < 65536) ∨ v > 1114111 ∨ (v ≥ 55296 ∧ v ≤ 57343))
def leadN (c : Nat) : Int := if c < 224 then (c : Int) - 192 else if c < 240 then (c : Int) - 224 else (c : Int) - 240
/-- the number behind k bytes that go on -/
def valN (l : List UInt8) : Nat → Int
  | 0 => leadN (l.getD 0 0).toNat
  | k + 1 => 64 * valN l k + ((l.getD (k + 1) 0).toNat : Int) - 128
def charN (l : List UInt8) : Nat :=
  if (l.getD 0 0).toNat < 128 then 1
  else if wideN (l.getD 0 0).toNat = 0 then 0
  else if l.length < wideN (l.getD 0 0).toNat then 0
  else if (List.range (wideN (l.getD 0 0).toNat - 1)).all (fun i => contB (l.getD (i + 1) 0).toNat) = false then 0
  else if noneB (wideN (l.getD 0 0).toNat) (valN l (wideN (l.getD 0 0).toNat - 1)) = true then 0 else wideN (l.getD 0 0).toNat

def someN (x : Nat) : Option Nat := if x = 0 then none else some x

theorem check2 (l : List UInt8) (lo hi : Nat) (hw : wideN (l.getD 0 0).toNat = 2) (h0 : ¬ (l.getD 0 0).toNat < 128) (hlo : lo = 128) (hhi : hi = 191) (_h2 : (l.getD 2 0).toNat < 256) (_h3 : (l.getD 3 0).toNat < 256) :
    checkN l.length (l.getD 1 0).toNat (l.getD 2 0).toNat (l.getD 3 0).toNat 2 lo hi = someN (charN l) := by
  have hc : 194 ≤ (l.getD 0 0).toNat ∧ (l.getD 0 0).toNat < 224 := by
    unfold wideN at hw
    split at hw
    · cases hw
    · split at hw
      · assumption
      · split at hw
        · cases hw
        · split at hw <;> cases hw
  have r1 : (List.range (2 - 1)).all (fun i => contB (l.getD (i + 1) 0).toNat) = contB (l.getD 1 0).toNat := by simp [List.range_succ]
  have e1 : valN l (2 - 1) = 64 * leadN (l.getD 0 0).toNat + ((l.getD 1 0).toNat : Int) - 128 := rfl
  unfold charN
  rw [if_neg h0, hw, if_neg (by decide), r1, e1]
  have hl : leadN (l.getD 0 0).toNat = ((l.getD 0 0).toNat : Int) - 192 := by unfold leadN; rw [if_pos hc.2]
  rw [hl]
  generalize (l.getD 0 0).toNat = b0 at *
  generalize (l.getD 1 0).toNat = b1 at *
  generalize (l.getD 2 0).toNat = b2 at *
  unfold checkN
  rw [if_pos rfl]
  by_cases p1 : l.length < 2
  · rw [if_pos p1, if_pos (.inl p1)]; rfl
  · rw [if_neg p1]
    by_cases p2 : contB b1 = false
    · rw [if_pos p2, if_pos]; rfl
      simp only [contB, decide_eq_false_iff_not] at p2; omega
    · have p2' : 128 ≤ b1 ∧ b1 ≤ 191 := by simpa [contB] using p2
      rw [if_neg p2, if_neg (by omega), if_neg]; rfl
      simp only [noneB, decide_eq_true_eq]; omega

theorem check3 (l : List UInt8) (lo hi : Nat) (hw : wideN (l.getD 0 0).toNat = 3) (h0 : ¬ (l.getD 0 0).toNat < 128)
    (hlh : ((l.getD 0 0).toNat = 224 ∧ lo = 160 ∧ hi = 191) ∨ ((l.getD 0 0).toNat = 237 ∧ lo = 128 ∧ hi = 159) ∨ ((l.getD 0 0).toNat ≠ 224 ∧ (l.getD 0 0).toNat ≠ 237 ∧ lo = 128 ∧ hi = 191)) :
    checkN l.length (l.getD 1 0).toNat (l.getD 2 0).toNat (l.getD 3 0).toNat 3 lo hi = someN (charN l) := by
  have hc : 224 ≤ (l.getD 0 0).toNat ∧ (l.getD 0 0).toNat < 240 := by
    unfold wideN at hw
    split at hw
    · cases hw
    · split at hw
      · cases hw
      · split at hw
        · assumption
        · split at hw <;> cases hw
  have r1 : (List.range (3 - 1)).all (fun i => contB (l.getD (i + 1) 0).toNat) = (contB (l.getD 1 0).toNat && contB (l.getD 2 0).toNat) := by simp [List.range_succ]
  have e1 : valN l (3 - 1) = 64 * (64 * leadN (l.getD 0 0).toNat + ((l.getD 1 0).toNat : Int) - 128) + ((l.getD 2 0).toNat : Int) - 128 := rfl
  unfold charN
  rw [if_neg h0, hw, if_neg (by decide), r1, e1]
  have hl : leadN (l.getD 0 0).toNat = ((l.getD 0 0).toNat : Int) - 224 := by unfold leadN; rw [if_neg (by omega), if_pos hc.2]
  rw [hl]
  generalize (l.getD 0 0).toNat = b0 at *
  generalize (l.getD 1 0).toNat = b1 at *
  generalize (l.getD 2 0).toNat = b2 at *
  generalize (l.getD 3 0).toNat = b3 at *
  unfold checkN
  rw [if_neg (by decide), if_pos rfl]
  by_cases p1 : l.length < 3
  · rw [if_pos p1, if_pos (.inl p1)]; rfl
  · rw [if_neg p1]
    by_cases p2 : (contB b1 && contB b2) = false
    · rw [if_pos p2, if_pos]; rfl
      simp only [contB, Bool.and_eq_false_iff, decide_eq_false_iff_not] at p2; omega
    · have p2' : 128 ≤ b1 ∧ b1 ≤ 191 ∧ 128 ≤ b2 ∧ b2 ≤ 191 := by simpa [contB] using p2
      have hcs : b0 = 224 ∨ b0 = 237 ∨ (225 ≤ b0 ∧ b0 ≤ 236) ∨ 238 ≤ b0 := by omega
      rw [if_neg p2]
      by_cases p3 : noneB 3 (64 * (64 * ((b0 : Int) - 224) + (b1 : Int) - 128) + (b2 : Int) - 128) = true
      · rw [if_pos p3, if_pos]; rfl
        simp only [noneB, decide_eq_true_eq, show ((3 : Nat) = 4) = False by simp, true_and, false_and, false_or] at p3; rcases hcs with q | q | q | q <;> omega
      · rw [if_neg p3, if_neg]; rfl
        simp only [noneB, decide_eq_true_eq, show ((3 : Nat) = 4) = False by simp, true_and, false_and, false_or] at p3; rcases hcs with q | q | q | q <;> omega

theorem check4 (l : List UInt8) (lo hi : Nat) (hw : wideN (l.getD 0 0).toNat = 4) (h0 : ¬ (l.getD 0 0).toNat < 128)
    (hlh : ((l.getD 0 0).toNat = 240 ∧ lo = 144 ∧ hi = 191) ∨ ((l.getD 0 0).toNat = 244 ∧ lo = 128 ∧ hi = 143) ∨ ((l.getD 0 0).toNat ≠ 240 ∧ (l.getD 0 0).toNat ≠ 244 ∧ lo = 128 ∧ hi = 191)) :
    checkN l.length (l.getD 1 0).toNat (l.getD 2 0).toNat (l.getD 3 0).toNat 4 lo hi = someN (charN l) := by
  have hc : 240 ≤ (l.getD 0 0).toNat ∧ (l.getD 0 0).toNat < 245 := by
    unfold wideN at hw
    split at hw
    · cases hw
    · split at hw
      · cases hw
      · split at hw
        · cases hw
        · split at hw
          · assumption
          · cases hw
  have r1 : (List.range (4 - 1)).all (fun i => contB (l.getD (i + 1) 0).toNat) = (contB (l.getD 1 0).toNat && (contB (l.getD 2 0).toNat && contB (l.getD 3 0).toNat)) := by simp [List.range_succ]
  have e1 : valN l (4 - 1) = 64 * (64 * (64 * leadN (l.getD 0 0).toNat + ((l.getD 1 0).toNat : Int) - 128) + ((l.getD 2 0).toNat : Int) - 128) + ((l.getD 3 0).toNat : Int) - 128 := rfl
  unfold charN
  rw [if_neg h0, hw, if_neg (by decide), r1, e1]
  have hl : leadN (l.getD 0 0).toNat = ((l.getD 0 0).toNat : Int) - 240 := by unfold leadN; rw [if_neg (by omega), if_neg (by omega)]
  rw [hl]
  generalize (l.getD 0 0).toNat = b0 at *
  generalize (l.getD 1 0).toNat = b1 at *
  generalize (l.getD 2 0).toNat = b2 at *
  generalize (l.getD 3 0).toNat = b3 at *
  unfold checkN
  rw [if_neg (by decide), if_neg (by decide), if_pos rfl]
  by_cases p1 : l.length < 4
  · rw [if_pos p1, if_pos (.inl p1)]; rfl
  · rw [if_neg p1]
    by_cases p2 : (contB b1 && (contB b2 && contB b3)) = false
    · rw [if_pos p2, if_pos]; rfl
      simp only [contB, Bool.and_eq_false_iff, decide_eq_false_iff_not] at p2; omega
    · have p2' : 128 ≤ b1 ∧ b1 ≤ 191 ∧ 128 ≤ b2 ∧ b2 ≤ 191 ∧ 128 ≤ b3 ∧ b3 ≤ 191 := by simpa [contB] using p2
      have hcs : b0 = 240 ∨ b0 = 244 ∨ (241 ≤ b0 ∧ b0 ≤ 243) := by omega
      rw [if_neg p2]
      by_cases p3 : noneB 4 (64 * (64 * (64 * ((b0 : Int) - 240) + (b1 : Int) - 128) + (b2 : Int) - 128) + (b3 : Int) - 128) = true
      · rw [if_pos p3, if_pos]; rfl
        simp only [noneB, decide_eq_true_eq, show ((4 : Nat) = 3) = False by simp, true_and, false_and, false_or] at p3; rcases hcs with q | q | q <;> omega
      · rw [if_neg p3, if_neg]; rfl
        simp only [noneB, decide_eq_true_eq, show ((4 : Nat) = 3) = False by simp, true_and, false_and, false_or] at p3; rcases hcs with q | q | q <;> omega

theorem first_low (b : Nat) (h : 128 ≤ b) (h2 : b < 194) : firstT b = 241 := by simp [firstT, show ¬ b < 128 by omega, h2]
theorem first_two (b : Nat) (h : 194 ≤ b) (h2 : b < 224) : firstT b = 2 := by simp [firstT, show ¬ b < 128 by omega, show ¬ b < 194 by omega, h2]
theorem first_three (b : Nat) (h : 225 ≤ b) (h2 : b < 240) (h3 : b ≠ 237) : firstT b = 3 := by
  by_cases c3 : b < 237
  · simp [firstT, show ¬ b < 128 by omega, show ¬ b < 194 by omega, show ¬ b < 224 by omega, show ¬ b = 224 by omega, c3]
  · simp [firstT, show ¬ b < 128 by omega, show ¬ b < 194 by omega, show ¬ b < 224 by omega, show ¬ b = 224 by omega, c3, h3, h2]
theorem first_four (b : Nat) (h : 241 ≤ b) (h2 : b < 244) : firstT b = 4 := by
  simp [firstT, show ¬ b < 128 by omega, show ¬ b < 194 by omega, show ¬ b < 224 by omega, show ¬ b = 224 by omega, show ¬ b < 237 by omega, show ¬ b = 237 by omega, show ¬ b < 240 by omega, show ¬ b = 240 by omega, h2]
theorem first_high (b : Nat) (h : 245 ≤ b) : firstT b = 241 := by
  simp [firstT, show ¬ b < 128 by omega, show ¬ b < 194 by omega, show ¬ b < 224 by omega, show ¬ b = 224 by omega, show ¬ b < 237 by omega, show ¬ b = 237 by omega, show ¬ b < 240 by omega, show ¬ b = 240 by omega, show ¬ b < 244 by omega, show ¬ b = 244 by omega]
theorem someN_zero : someN 0 = none := rfl
theorem charN_check (l : List UInt8) (h0 : 128 ≤ (l.getD 0 0).toNat) :
    checkN l.length (l.getD 1 0).toNat (l.getD 2 0).toNat (l.getD 3 0).toNat (firstT (l.getD 0 0).toNat % 8) (accLo (firstT (l.getD 0 0).toNat / 16)) (accHi (firstT (l.getD 0 0).toNat / 16)) = someN (charN l) := by
  have hb := (l.getD 0 0).toNat_lt
  have hn : ¬ (l.getD 0 0).toNat < 128 := by omega
  have h2 := (l.getD 2 0).toNat_lt
  have h3 := (l.getD 3 0).toNat_lt
  have bad : wideN (l.getD 0 0).toNat = 0 → charN l = 0 := by intro h; unfold charN; rw [if_neg hn, if_pos h]
  by_cases c0 : (l.getD 0 0).toNat < 194
  · rw [bad (by unfold wideN; rw [if_neg hn, if_neg (by omega), if_neg (by omega), if_neg (by omega)])]
    rw [first_low _ h0 c0]; rfl
  by_cases c1 : (l.getD 0 0).toNat < 224
  · have hw : wideN (l.getD 0 0).toNat = 2 := by unfold wideN; rw [if_neg hn, if_pos (by omega)]
    have e1 : firstT (l.getD 0 0).toNat = 2 := first_two _ (by omega) c1
    rw [e1]; exact check2 l _ _ hw hn (by decide) (by decide) h2 h3
  by_cases c5 : (l.getD 0 0).toNat < 240
  · have hw : wideN (l.getD 0 0).toNat = 3 := by unfold wideN; rw [if_neg hn, if_neg (by omega), if_pos (by omega)]
    by_cases c2 : (l.getD 0 0).toNat = 224
    · have e1 : firstT (l.getD 0 0).toNat = 19 := by rw [c2]; decide
      rw [e1]; exact check3 l _ _ hw hn (.inl ⟨c2, by decide, by decide⟩)
    · by_cases c4 : (l.getD 0 0).toNat = 237
      · have e1 : firstT (l.getD 0 0).toNat = 35 := by rw [c4]; decide
        rw [e1]; exact check3 l _ _ hw hn (.inr (.inl ⟨c4, by decide, by decide⟩))
      · have e1 : firstT (l.getD 0 0).toNat = 3 := first_three _ (by omega) c5 c4
        rw [e1]; exact check3 l _ _ hw hn (.inr (.inr ⟨c2, c4, by decide, by decide⟩))
  by_cases c9 : (l.getD 0 0).toNat < 245
  · have hw : wideN (l.getD 0 0).toNat = 4 := by unfold wideN; rw [if_neg hn, if_neg (by omega), if_neg (by omega), if_pos (by omega)]
    by_cases c6 : (l.getD 0 0).toNat = 240
    · have e1 : firstT (l.getD 0 0).toNat = 52 := by rw [c6]; decide
      rw [e1]; exact check4 l _ _ hw hn (.inl ⟨c6, by decide, by decide⟩)
    · by_cases c8 : (l.getD 0 0).toNat = 244
      · have e1 : firstT (l.getD 0 0).toNat = 68 := by rw [c8]; decide
        rw [e1]; exact check4 l _ _ hw hn (.inr (.inl ⟨c8, by decide, by decide⟩))
      · have e1 : firstT (l.getD 0 0).toNat = 4 := first_four _ (by omega) (by omega)
        rw [e1]; exact check4 l _ _ hw hn (.inr (.inr ⟨c6, c8, by decide, by decide⟩))
  · rw [bad (by unfold wideN; rw [if_neg hn, if_neg (by omega), if_neg (by omega), if_neg (by omega)])]
    rw [first_high _ (by omega)]; rfl

/-- one step of the reference's loop -/
theorem validD_char (l : List UInt8) (hne : l ≠ []) : validD l = if charN l = 0 then false else validD (l.drop (charN l)) := by
  by_cases h0 : (l.getD 0 0).toNat < 128
  · have hc : charN l = 1 := by unfold charN; rw [if_pos h0]
    rw [hc, if_neg (by decide)]
    cases l with
    | nil => exact absurd rfl hne
    | cons b t => exact validD_cons b t h0
  · rw [validD_lead l hne (by omega), charN_check l (by omega)]
    unfold someN
    split
    · rename_i h; split at h
      · rename_i h2; rw [if_pos h2]
      · cases h
    · rename_i k h; split at h
      · cases h
      · rename_i h2; rw [if_neg h2]; cases h; rfl
theorem charN_pos {l : List UInt8} (hne : l ≠ []) : charN l ≤ l.length := by
  have hl : 0 < l.length := List.length_pos_iff.2 hne
  unfold charN
  split
  · exact hl
  · split
    · exact Nat.zero_le _
    · split
      · exact Nat.zero_le _
      · split
        · exact Nat.zero_le _
        · split
          · exact Nat.zero_le _
          · omega
end Go.Proofs.YtmgfpjfamdbhbaaDoor
