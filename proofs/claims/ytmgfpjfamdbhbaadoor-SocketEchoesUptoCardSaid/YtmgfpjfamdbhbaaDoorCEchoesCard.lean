/- SocketEchoes holds: the second form's card, where what it reads is of bulk at most 1048576; the two tables of unicode/utf8 are laid. -/
import Derived.Test.YtmgfpjfamdbhbaaDoorCEchoes
namespace Go.Proofs.YtmgfpjfamdbhbaaDoor
theorem socketEchoes_card_holds : Rows.SocketEchoesUptoCardSaid := echoes.cardUpto
end Go.Proofs.YtmgfpjfamdbhbaaDoor
