/- SocketPrints holds: the second form's card, where what it reads is of bulk at most 1048576; the two tables of unicode/utf8 are laid. -/
import Derived.Test.YtmgfpjfamdbhbaaDoorCPrints
namespace Go.Proofs.YtmgfpjfamdbhbaaDoor
theorem socketPrints_card_holds : Rows.SocketPrintsUptoCardSaid := prints.cardUpto
end Go.Proofs.YtmgfpjfamdbhbaaDoor
