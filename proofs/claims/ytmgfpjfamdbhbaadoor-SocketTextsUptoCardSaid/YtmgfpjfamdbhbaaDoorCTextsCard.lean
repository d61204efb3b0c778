/- SocketTexts holds: the second form's card, where what it reads is of bulk at most 1048576; the two tables of unicode/utf8 are laid. -/
import Derived.Test.YtmgfpjfamdbhbaaDoorCTexts
namespace Go.Proofs.YtmgfpjfamdbhbaaDoor
theorem socketTexts_card_holds : Rows.SocketTextsUptoCardSaid := texts.cardUpto
end Go.Proofs.YtmgfpjfamdbhbaaDoor
