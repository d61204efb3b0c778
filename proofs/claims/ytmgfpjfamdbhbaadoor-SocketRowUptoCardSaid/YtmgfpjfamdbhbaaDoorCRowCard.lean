/- SocketRow holds: the second form's card, where what it reads is of bulk at most 1048576; the two tables of unicode/utf8 are laid. -/
import Derived.Test.YtmgfpjfamdbhbaaDoorCRow
namespace Go.Proofs.YtmgfpjfamdbhbaaDoor
theorem socketRow_card_holds : Rows.SocketRowUptoCardSaid := row.cardUpto
end Go.Proofs.YtmgfpjfamdbhbaaDoor
