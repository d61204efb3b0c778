/- SocketWhole holds: the second form's card, where what it reads is of bulk at most 1048576; the two tables of unicode/utf8 are laid. -/
import Derived.Test.YtmgfpjfamdbhbaaDoorCWhole
namespace Go.Proofs.YtmgfpjfamdbhbaaDoor
theorem socketWhole_card_holds : Rows.SocketWholeUptoCardSaid := wholes.cardUpto
end Go.Proofs.YtmgfpjfamdbhbaaDoor
