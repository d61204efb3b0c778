/- Plain facts of strings as lists of bytes, of bytes' bits and of rows of bytes in memory; no condition. -/
import Derived.Test.YtmgfpjfamdbhbaaDoorChecked
import Derived.WalkKit
import Derived.WalkSpells
import Derived.WalkLawsBesides
import Derived.Lib.Hide
namespace Go.Proofs.YtmgfpjfamdbhbaaDoor
open Go.RowKit

/-- a string's bytes, and back -/
def bl (s : ByteArray) : List UInt8 := s.data.toList
def bs (l : List UInt8) : ByteArray := ⟨l.toArray⟩
theorem bl_bs (l : List UInt8) : bl (bs l) = l := rfl
theorem bs_bl (s : ByteArray) : bs (bl s) = s := by
  apply ByteArray.ext; simp [bl, bs]
theorem bl_length (s : ByteArray) : (bl s).length = s.size := Array.length_toList
theorem bs_size (l : List UInt8) : (bs l).size = l.length := by simp [bs, ByteArray.size]
theorem bl_append (a b : ByteArray) : bl (a ++ b) = bl a ++ bl b := by
  show (a ++ b).data.toList = a.data.toList ++ b.data.toList
  rw [ByteArray.data_append, Array.toList_append]
theorem bl_extract (s : ByteArray) (i j : Nat) : bl (s.extract i j) = ((bl s).drop i).take (j - i) := by
  simp [bl, ByteArray.data_extract]
theorem bl_inj {a b : ByteArray} (h : bl a = bl b) : a = b := by rw [← bs_bl a, ← bs_bl b, h]
theorem bs_append (a b : List UInt8) : bs a ++ bs b = bs (a ++ b) := bl_inj (by simp [bl_append, bl_bs])
theorem str_of {s : ByteArray} {l : List UInt8} (h : bl s = l) : Value.string s = Value.string (bs l) := by rw [← h, bs_bl]
theorem bl_get (s : ByteArray) (i : Nat) (h : i < s.size) : s[i] = (bl s)[i]'(by rw [bl_length]; exact h) := rfl
theorem bl_toList (s : ByteArray) : s.toList = bl s := by rw [ByteArray.toList_eq]; rfl

/-- a string made of bytes -/
theorem ret_str {a b : ByteArray} (h : bl a = bl b) : Ending.returned (.string a) = .returned (.string b) := by rw [bl_inj h]
theorem ret_int {k : IntKind} {a b : Int} (h : a = b) : Ending.returned (.int k a) = .returned (.int k b) := by rw [h]
theorem ret_bool {a b : Bool} (h : a = b) : Ending.returned (.bool a) = .returned (.bool b) := by rw [h]

theorem xor8 (x y : UInt8) : bits .xor .u8 (x.toNat : Int) (y.toNat : Int) = ((x ^^^ y).toNat : Int) := by
  rw [u8_xor_nat _ _ x.toNat_lt y.toNat_lt]; simp
theorem or8 (x y : UInt8) : bits .or .u8 (x.toNat : Int) (y.toNat : Int) = ((x ||| y).toNat : Int) := by
  rw [u8_or_nat _ _ x.toNat_lt y.toNat_lt]; simp
theorem and8 (x y : UInt8) : bits .and .u8 (x.toNat : Int) (y.toNat : Int) = ((x &&& y).toNat : Int) := by
  rw [u8_and_nat _ _ x.toNat_lt y.toNat_lt]; simp

/-- block N begins with the bytes l, which may be written -/
def RowB (w : World) (N : Nat) (l : List UInt8) : Prop := ∀ j (h : j < l.length), w.cell? ⟨N, j, none⟩ = some (.int .u8 l[j].toNat) ∧ w.frozen? ⟨N, j, none⟩ = false

theorem RowB.drew {w : World} {N : Nat} {l : List UInt8} (h : RowB w N l) : RowB w.drew N l := h
theorem RowB.set {w : World} {N : Nat} {l l' : List UInt8} {k : Nat} {x : UInt8} (h : RowB w N l) (_hk : k < l.length) (hl : l' = l.set k x) :
    RowB (w.setCell ⟨N, k, none⟩ (.int .u8 x.toNat)) N l' := by
  subst hl
  intro j hj
  have hj' : j < l.length := by simpa using hj
  obtain ⟨hc, hz⟩ := h j hj'
  refine ⟨?_, by simpa using hz⟩
  by_cases e : k = j
  · subst e
    rw [World.cell?_setCell_same (u := .int .u8 l[k].toNat) _ _ _ hc]; simp
  · rw [World.cell?_setCell_other _ _ _ _ (by simp), hc]
    simp [e]
/-- a string's bytes in a new block -/
theorem RowB.conv (w : World) (s : ByteArray) (cap : Nat) : RowB (w.alloc (.cells (bytesRow s cap) 5 ((bytesRow s cap).size, (bytesRow s cap).size + 1))) w.heap.size (bl s) := by
  intro j hj
  have hj' : j < s.data.size := by simpa [bl] using hj
  refine ⟨?_, ?_⟩
  · rw [World.cell?_alloc_mark, bytesRow_at s cap j hj']; simp [bl]
  · rw [World.frozen?_alloc_mark]
    have : j < (bytesRow s cap).size := by simp only [bytesRow, Array.size_append, Array.size_map]; omega
    simp only [Bool.and_eq_false_iff, decide_eq_false_iff_not]; omega
theorem addr_add (N j : Nat) : (⟨N, 0, none⟩ : Addr).add j = ⟨N, j, none⟩ := by
  unfold Addr.add
  by_cases h : j = 0
  · subst h; simp
  · simp [h]
/-- a row of bytes made a string -/
theorem RowB.back {w : World} {N : Nat} {l : List UInt8} (h : RowB w N l) (cap : Nat) :
    (convert 76 9 (.slice (some ⟨N, 0, none⟩) l.length cap)).run Tryd.prog w = .ok (.string (bs l)) w :=
  run_convert_bytes_back (P := Tryd.prog) w 76 9 5 ⟨N, 0, none⟩ cap l Tryd.underlying76 Tryd.underlying5 Tryd.underlying9
    (fun j hj => by rw [addr_add]; exact (h j hj).1)
end Go.Proofs.YtmgfpjfamdbhbaaDoor
