/- The ties of the rows of this seat, out of their parts. -/
import Derived.Test.YtjlgdeeahcfcgaaGreatDoorTieA
import Derived.Test.YtjlgdeeahcfcgaaGreatDoorTieD
import Derived.Test.YtjlgdeeahcfcgaaGreatDoorTieF
import Derived.Test.YtjlgdeeahcfcgaaGreatDoorTieG
import Derived.Test.YtjlgdeeahcfcgaaGreatDoorTieH
import Derived.Test.YtjlgdeeahcfcgaaGreatDoorTieI
import Derived.Test.YtjlgdeeahcfcgaaGreatDoorTieJ
import Derived.Test.YtjlgdeeahcfcgaaGreatDoorTieP
import Derived.LaidByTextLater
import Derived.SevenTiedAt
namespace Go.Proofs.YtjlgdeeahcfcgaaGreatDoor
open Go
theorem tie : Tryz.prog.laidByTextLater [("internal/strconv.uint64pow10", Rows.laid_internal_strconv_uint64pow10), ("math/bits.deBruijn32tab", Rows.laid_math_bits_deBruijn32tab), ("math/bits.deBruijn64tab", Rows.laid_math_bits_deBruijn64tab), ("unicode/utf8.acceptRanges", Rows.laid_unicode_utf8_acceptRanges), ("turnpike/octet.signs", Rows.laid_turnpike_octet_signs), ("errors.errorType", Rows.laid_errors_errorType)] [.data, .data, .data, .data, .data, .handle] true :=
  Program.laidByTextLater_by_run_h (laid := laidRow) (kinds := laidRowKinds) 400 8 tie_wA tie_wB tie_wC tie_wD tie_wE tie_wF tie_wG tie_wH tie_wI tie_wJ
theorem appNil_row_tie : Rows.appNilRow.laidByTextAt .later Tryz.pinned [.data, .data, .data, .pinned, .data, .data, .handle] true :=
  OpenClaim.laidByTextAt_pinned rfl rfl tie rfl rfl rfl rfl (fun y hy _e => by
    simp only [Rows.appNilRow, List.zip_cons_cons, List.zip_nil_right, List.mem_cons, List.mem_nil_iff, or_false] at hy
    rcases hy with rfl | rfl | rfl | rfl | rfl | rfl | rfl
    · cases _e
    · cases _e
    · cases _e
    · exact ⟨pin_laid_unicode_utf8_first, by kernel_rfl⟩
    · cases _e
    · cases _e
    · cases _e) fits1
theorem appNilUpto_row_tie : Rows.appNilUptoRow.laidByTextAt .later Tryz.pinned [.data, .data, .data, .pinned, .data, .data, .handle] true :=
  OpenClaim.laidByTextAt_pinned rfl rfl tie rfl rfl rfl rfl (fun y hy _e => by
    simp only [Rows.appNilUptoRow, List.zip_cons_cons, List.zip_nil_right, List.mem_cons, List.mem_nil_iff, or_false] at hy
    rcases hy with rfl | rfl | rfl | rfl | rfl | rfl | rfl
    · cases _e
    · cases _e
    · cases _e
    · exact ⟨pin_laid_unicode_utf8_first, by kernel_rfl⟩
    · cases _e
    · cases _e
    · cases _e) fits1
end Go.Proofs.YtjlgdeeahcfcgaaGreatDoor
