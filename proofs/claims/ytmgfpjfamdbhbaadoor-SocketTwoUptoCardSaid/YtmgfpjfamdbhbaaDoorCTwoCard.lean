/- SocketTwo holds: the second form's card, where what it reads is of bulk at most 1048576; the two tables of unicode/utf8 are laid. -/
import Derived.Test.YtmgfpjfamdbhbaaDoorCTwo
namespace Go.Proofs.YtmgfpjfamdbhbaaDoor
theorem socketTwo_card_holds : Rows.SocketTwoUptoCardSaid := two.cardUpto
end Go.Proofs.YtmgfpjfamdbhbaaDoor
