/- What is printed is read back, a proper beginning is none: plain laws. -/
import Derived.Test.YtmgfpjfamdbhbaaDoorRowP
namespace Go.Proofs.YtmgfpjfamdbhbaaDoor
open Go.RowKit

theorem parse_print {fin msk : Bool} {op : Int} {mask body : List UInt8} (h : Fine fin msk op mask body) (x : List UInt8) :
    parseL ((printL fin msk op mask body).1 ++ x) body.length = (⟨fin, msk, op, mask, body⟩, ((printL fin msk op mask body).1.length : Int), 0) := by
  have T := tells h x
  have hE : errN ((printL fin msk op mask body).1 ++ x) = 0 := by unfold errN; rw [if_neg (by rw [T.wrong]; simp), T.short]; rfl
  have hlen := T.total
  rw [List.length_append] at hlen
  rw [parseL, if_neg (by omega), if_neg (by rw [T.ok]; simp), if_neg (by rw [hE]; simp), if_neg, if_neg, T.hi0, T.hi1, T.op, T.mask]
  · have hb := T.body
    unfold bodyL at hb
    rw [T.mask] at hb
    rw [hb]
    congr 2
    omega
  · rw [List.length_append]; omega
  · rw [T.len]
    rintro ⟨_, h1 | h1⟩
    · have := h.len; omega
    · omega
theorem parse_begin {fin msk : Bool} {op : Int} {mask body : List UInt8} (h : Fine fin msk op mask body) (k : Nat) (hk : k < (printL fin msk op mask body).1.length) :
    parseL ((printL fin msk op mask body).1.take k) body.length = (FR.zero, (k : Int), 124) := by
  have T := tells h []
  rw [List.append_nil] at T
  have hlen := T.total
  generalize hP : (printL fin msk op mask body).1 = P at *
  have hkl : (P.take k).length = k := by rw [List.length_take]; omega
  by_cases hok : headOk (P.take k) = false
  · rw [parseL, if_neg (by omega), if_pos hok, hkl]
  · have hok' : headOk (P.take k) = true := by simpa using hok
    have e := sameHead hok' (P.drop k)
    rw [List.take_append_drop] at e
    have hE : errN (P.take k) = 0 := by unfold errN; rw [← e.wrong, if_neg (by rw [T.wrong]; simp), ← e.short, T.short]; rfl
    rw [parseL, if_neg (by omega), if_neg hok, if_neg (by rw [hE]; simp), if_neg, if_pos, hkl]
    · rw [hkl, ← e.at1, ← e.len]
      simp only [List.length_nil] at hlen
      omega
    · rw [← e.len, T.len]
      rintro ⟨_, h1 | h1⟩
      · have := h.len; omega
      · omega
theorem print_size {fin msk : Bool} {op : Int} {mask body : List UInt8} (h : Fine fin msk op mask body) : body.length + 2 ≤ (printL fin msk op mask body).1.length ∧ (printL fin msk op mask body).1.length ≤ body.length + 14 := by
  have T := tells h []
  rw [List.append_nil] at T
  have hlen := T.total
  have := hsizeN_le (at1 (printL fin msk op mask body).1)
  rw [T.len] at hlen
  simp only [List.length_nil] at hlen
  omega
end Go.Proofs.YtmgfpjfamdbhbaaDoor
