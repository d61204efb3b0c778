/- The ties of the rows of this seat, out of their parts. -/
import Derived.Test.YtnnjnjginlkloaaGreatDoorTieA
import Derived.Test.YtnnjnjginlkloaaGreatDoorTieB
import Derived.Test.YtnnjnjginlkloaaGreatDoorTieC
import Derived.Test.YtnnjnjginlkloaaGreatDoorTieD
import Derived.Test.YtnnjnjginlkloaaGreatDoorTieE
import Derived.Test.YtnnjnjginlkloaaGreatDoorTieF
import Derived.Test.YtnnjnjginlkloaaGreatDoorTieG
import Derived.Test.YtnnjnjginlkloaaGreatDoorTieH
import Derived.Test.YtnnjnjginlkloaaGreatDoorTieI
import Derived.Test.YtnnjnjginlkloaaGreatDoorTieJ
import Derived.Test.YtnnjnjginlkloaaGreatDoorTieP
import Derived.LaidByTextLater
import Derived.SevenTiedAt
namespace Go.Proofs.YtnnjnjginlkloaaGreatDoor
open Go
theorem tie : Tryz.prog.laidByTextLater [("turnpike/octet.signs", Rows.laid_turnpike_octet_signs), ("unicode/utf8.acceptRanges", Rows.laid_unicode_utf8_acceptRanges), ("internal/strconv.uint64pow10", Rows.laid_internal_strconv_uint64pow10), ("math/bits.deBruijn32tab", Rows.laid_math_bits_deBruijn32tab), ("math/bits.deBruijn64tab", Rows.laid_math_bits_deBruijn64tab), ("errors.errorType", Rows.laid_errors_errorType)] [.data, .data, .data, .data, .data, .handle] true :=
  Program.laidByTextLater_by_run_h (laid := laidRow) (kinds := laidRowKinds) 400 8 tie_wA tie_wB tie_wC tie_wD tie_wE tie_wF tie_wG tie_wH tie_wI tie_wJ
theorem wholeNil_row_tie : Rows.wholeNilRow.laidByTextAt .later Tryz.pinned [.data, .pinned, .data, .data, .data, .data, .handle] true :=
  OpenClaim.laidByTextAt_pinned rfl rfl tie rfl rfl rfl rfl (fun y hy _e => by
    simp only [Rows.wholeNilRow, List.zip_cons_cons, List.zip_nil_right, List.mem_cons, List.mem_nil_iff, or_false] at hy
    rcases hy with rfl | rfl | rfl | rfl | rfl | rfl | rfl
    · cases _e
    · exact ⟨pin_laid_unicode_utf8_first, by kernel_rfl⟩
    · cases _e
    · cases _e
    · cases _e
    · cases _e
    · cases _e) fits1
theorem wholeNilUpto_row_tie : Rows.wholeNilUptoRow.laidByTextAt .later Tryz.pinned [.data, .pinned, .data, .data, .data, .data, .handle] true :=
  OpenClaim.laidByTextAt_pinned rfl rfl tie rfl rfl rfl rfl (fun y hy _e => by
    simp only [Rows.wholeNilUptoRow, List.zip_cons_cons, List.zip_nil_right, List.mem_cons, List.mem_nil_iff, or_false] at hy
    rcases hy with rfl | rfl | rfl | rfl | rfl | rfl | rfl
    · cases _e
    · exact ⟨pin_laid_unicode_utf8_first, by kernel_rfl⟩
    · cases _e
    · cases _e
    · cases _e
    · cases _e
    · cases _e) fits1
end Go.Proofs.YtnnjnjginlkloaaGreatDoor
