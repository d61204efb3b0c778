/- SocketBack holds: the second form's card, where what it reads is of bulk at most 1048576; the two tables of unicode/utf8 are laid. -/
import Derived.Test.YtmgfpjfamdbhbaaDoorCBack
namespace Go.Proofs.YtmgfpjfamdbhbaaDoor
theorem socketBack_card_holds : Rows.SocketBackUptoCardSaid := back.cardUpto
end Go.Proofs.YtmgfpjfamdbhbaaDoor
