/- SocketCloses holds: the second form's card, where what it reads is of bulk at most 1048576; the two tables of unicode/utf8 are laid. -/
import Derived.Test.YtmgfpjfamdbhbaaDoorCCloses
namespace Go.Proofs.YtmgfpjfamdbhbaaDoor
theorem socketCloses_card_holds : Rows.SocketClosesUptoCardSaid := closes.cardUpto
end Go.Proofs.YtmgfpjfamdbhbaaDoor
