/- A frame's head as plain functions on bytes; no condition. -/
import Derived.Test.YtmgfpjfamdbhbaaDoorPrint
namespace Go.Proofs.YtmgfpjfamdbhbaaDoor
open Go.RowKit

def bigN (l : List UInt8) : Nat := l.foldl (fun n b => 256 * n + b.toNat) 0
def moreN (x : UInt8) : Nat := if x.toNat % 128 = 126 then 2 else if x.toNat % 128 = 127 then 8 else 0
def hiB (x : UInt8) : Bool := decide (128 ≤ x.toNat)
def hsizeN (x : UInt8) : Nat := 2 + moreN x + if hiB x then 4 else 0
def at0 (s : List UInt8) : UInt8 := s.getD 0 0
def at1 (s : List UInt8) : UInt8 := s.getD 1 0
def headOk (s : List UInt8) : Bool := decide (2 ≤ s.length) && decide (hsizeN (at1 s) ≤ s.length)
def lenN (s : List UInt8) : Nat := if moreN (at1 s) = 0 then (at1 s).toNat % 128 else bigN ((s.drop 2).take (moreN (at1 s)))
def opN (s : List UInt8) : Int := (((at0 s).toNat % 16 : Nat) : Int)
def maskOf (s : List UInt8) : List UInt8 := if hiB (at1 s) then (s.drop (hsizeN (at1 s) - 4)).take 4 else []
def shortB (s : List UInt8) : Bool := (moreN (at1 s) == 2 && decide (lenN s ≤ 125)) || (moreN (at1 s) == 8 && decide (lenN s ≤ 65535))
def wrongN (s : List UInt8) : Int :=
  if (at0 s).toNat / 16 % 8 ≠ 0 then 226 else if isOpB (opN s) = false then 221
  else if (controlB (opN s) && (!hiB (at0 s) || decide (0 < moreN (at1 s)))) = true then 222 else 0
def errN (s : List UInt8) : Int := if wrongN s ≠ 0 then wrongN s else if shortB s then 225 else 0
def half : Nat := 9223372036854775808

theorem moreN_cases (x : UInt8) : moreN x = 0 ∨ moreN x = 2 ∨ moreN x = 8 := by
  unfold moreN; split
  · exact .inr (.inl rfl)
  · split
    · exact .inr (.inr rfl)
    · exact .inl rfl
theorem hsizeN_le (x : UInt8) : 2 ≤ hsizeN x ∧ hsizeN x ≤ 14 := by
  have := moreN_cases x
  unfold hsizeN; split <;> omega
theorem bigN_snoc (l : List UInt8) (b : UInt8) : bigN (l ++ [b]) = 256 * bigN l + b.toNat := by simp [bigN, List.foldl_append]
theorem bigN_lt' (l : List UInt8) : ∀ n, l.foldl (fun n b => 256 * n + b.toNat) n < 256 ^ l.length * (n + 1) := by
  induction l with
  | nil => intro n; simp
  | cons b l ih =>
    intro n
    simp only [List.foldl_cons, List.length_cons, Nat.pow_succ]
    have h1 := ih (256 * n + b.toNat)
    have h2 : 256 * n + b.toNat + 1 ≤ 256 * (n + 1) := by have := b.toNat_lt; omega
    have h3 := Nat.mul_le_mul_left (256 ^ l.length) h2
    rw [Nat.mul_assoc]
    omega
theorem bigN_lt (l : List UInt8) : bigN l < 256 ^ l.length := by have := bigN_lt' l 0; simpa [bigN] using this

/-- the head as the program holds it -/
def headV (s : List UInt8) : Value :=
  .agg #[.bool (hiB (at0 s)), .bool (hiB (at1 s)), .int .i64 (opN s), .string (bs (maskOf s)), .string ⟨#[]⟩,
    .int .i64 (hsizeN (at1 s)), .int .i64 ((lenN s % half : Nat) : Int), .bool (decide (half ≤ lenN s)), .int .i64 (errN s)]

/- facts of one byte's bits -/
set_option maxRecDepth 100000 in
theorem b_fin : ∀ x : Fin 256, (bits .and .u8 (x.val : Int) 128 != 0) = decide (128 ≤ x.val) := by decide
set_option maxRecDepth 100000 in
theorem b_op : ∀ x : Fin 256, bits .and .u8 (x.val : Int) 15 = ((x.val % 16 : Nat) : Int) := by decide
set_option maxRecDepth 100000 in
theorem b_low : ∀ x : Fin 256, bits .andNot .u8 (x.val : Int) 128 = ((x.val % 128 : Nat) : Int) := by decide
set_option maxRecDepth 100000 in
theorem b_res : ∀ x : Fin 256, (bits .and .u8 (x.val : Int) 112 != 0) = decide (x.val / 16 % 8 ≠ 0) := by decide
theorem bit_fin (x : UInt8) : (bits .and .u8 (x.toNat : Int) 128 != 0) = hiB x := b_fin ⟨x.toNat, x.toNat_lt⟩
theorem bit_op (x : UInt8) : bits .and .u8 (x.toNat : Int) 15 = ((x.toNat % 16 : Nat) : Int) := b_op ⟨x.toNat, x.toNat_lt⟩
theorem bit_low (x : UInt8) : bits .andNot .u8 (x.toNat : Int) 128 = ((x.toNat % 128 : Nat) : Int) := b_low ⟨x.toNat, x.toNat_lt⟩
theorem bit_res (x : UInt8) : (bits .and .u8 (x.toNat : Int) 112 != 0) = decide (x.toNat / 16 % 8 ≠ 0) := b_res ⟨x.toNat, x.toNat_lt⟩
end Go.Proofs.YtmgfpjfamdbhbaaDoor
