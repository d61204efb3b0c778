/- SocketParses holds: the second form's card, where what it reads is of bulk at most 1048576; the two tables of unicode/utf8 are laid. -/
import Derived.Test.YtmgfpjfamdbhbaaDoorCParses
namespace Go.Proofs.YtmgfpjfamdbhbaaDoor
theorem socketParses_card_holds : Rows.SocketParsesUptoCardSaid := parses.cardUpto
end Go.Proofs.YtmgfpjfamdbhbaaDoor
