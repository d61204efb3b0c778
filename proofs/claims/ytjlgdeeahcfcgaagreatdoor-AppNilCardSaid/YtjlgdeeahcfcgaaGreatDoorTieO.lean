/- What the tie of this seat speaks of: the listed variables and their kinds. -/
import Derived.Test.YtjlgdeeahcfcgaaGreatDoorRows
import Derived.LaidByTextLater
import Derived.SevenTiedAt
namespace Go.Proofs.YtjlgdeeahcfcgaaGreatDoor
open Go
/-- The listed variables that the program's text lays (no pinned table among them). -/
noncomputable def laidRow : List (String × DataW Unit) := [("internal/strconv.uint64pow10", Rows.laid_internal_strconv_uint64pow10), ("math/bits.deBruijn32tab", Rows.laid_math_bits_deBruijn32tab), ("math/bits.deBruijn64tab", Rows.laid_math_bits_deBruijn64tab), ("unicode/utf8.acceptRanges", Rows.laid_unicode_utf8_acceptRanges), ("turnpike/octet.signs", Rows.laid_turnpike_octet_signs), ("errors.errorType", Rows.laid_errors_errorType)]
def laidRowKinds : List LaidKind := [.data, .data, .data, .data, .data, .handle]
end Go.Proofs.YtjlgdeeahcfcgaaGreatDoor
