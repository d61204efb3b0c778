/- SocketCuts holds: the second form's card, where what it reads is of bulk at most 1048576; the two tables of unicode/utf8 are laid. -/
import Derived.Test.YtmgfpjfamdbhbaaDoorCCuts
namespace Go.Proofs.YtmgfpjfamdbhbaaDoor
theorem socketCuts_card_holds : Rows.SocketCutsUptoCardSaid := cuts.cardUpto
end Go.Proofs.YtmgfpjfamdbhbaaDoor
