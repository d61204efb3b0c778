/- SocketPeers holds: the second form's card, where what it reads is of bulk at most 1048576; the two tables of unicode/utf8 are laid. -/
import Derived.Test.YtmgfpjfamdbhbaaDoorCPeers
namespace Go.Proofs.YtmgfpjfamdbhbaaDoor
theorem socketPeers_card_holds : Rows.SocketPeersUptoCardSaid := peers.cardUpto
end Go.Proofs.YtmgfpjfamdbhbaaDoor
