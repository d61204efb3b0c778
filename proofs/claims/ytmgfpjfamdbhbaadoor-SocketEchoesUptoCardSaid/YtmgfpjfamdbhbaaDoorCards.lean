/-
  DERIVED. GIVEN WITH THE SEED: THE CARDS: each row of YtmgfpjfamdbhbaaDoorRows.lean that lists a variable, with what it lists TIED to the program's text (the seventh form; the later family's looks); each row that meets fmt, with fmt's text TOLD by the authors' own Lean function (tested against real Go, not proved from fmt's source: count such statements apart). THE CARD IS WHAT COUNTS. Prove the row's statement (the work); the ties are given (YtmgfpjfamdbhbaaDoorTie.lean); close each card by the builder's one call (the guide's Derived/Test/ToyasCard.lean, 'card_holds'). Laid BY PROGRAM, IN A SANDBOX (cutbox-door.mjs). By AI agents, Wed Nov 11 2026. No macro, syntax, notation, axiom, sorry.
-/
import Derived.Test.YtmgfpjfamdbhbaaDoorRows
import GoSem.ClaimSeven
namespace Go.Proofs.YtmgfpjfamdbhbaaDoor
namespace Rows

/-- THE TIED CARD OF 'turnpikelaw22.SocketPrints'. -/
def socketPrintsCard : Claim7 := { stood := { row := socketPrintsRow, standIns := [], harness := (true, "51d238231b759c466523208d7db947024302d979f4768a70476b6c9501fea94b"), looks := false }, kinds := [], alts := [], laidByText := true, laidKinds := [.data, .pinned], laidTests := true, laidLooks := .later }
def SocketPrintsCardSaid : Prop := Claim7.holds Tryd.pinned (.plain (OpenSpec.ofChange socketPrintsSpec)) socketPrintsCard

/-- THE TIED CARD OF 'turnpikelaw22.SocketTexts'. -/
def socketTextsCard : Claim7 := { stood := { row := socketTextsRow, standIns := [], harness := (true, "51d238231b759c466523208d7db947024302d979f4768a70476b6c9501fea94b"), looks := false }, kinds := [], alts := [], laidByText := true, laidKinds := [.data, .pinned], laidTests := true, laidLooks := .later }
def SocketTextsCardSaid : Prop := Claim7.holds Tryd.pinned (.plain (OpenSpec.ofChange socketTextsSpec)) socketTextsCard

/-- THE TIED CARD OF 'turnpikelaw22.SocketCloses'. -/
def socketClosesCard : Claim7 := { stood := { row := socketClosesRow, standIns := [], harness := (true, "51d238231b759c466523208d7db947024302d979f4768a70476b6c9501fea94b"), looks := false }, kinds := [], alts := [], laidByText := true, laidKinds := [.data, .pinned], laidTests := true, laidLooks := .later }
def SocketClosesCardSaid : Prop := Claim7.holds Tryd.pinned (.plain (OpenSpec.ofChange socketClosesSpec)) socketClosesCard

/-- THE TIED CARD OF 'turnpikelaw22.SocketWhole'. -/
def socketWholeCard : Claim7 := { stood := { row := socketWholeRow, standIns := [], harness := (true, "51d238231b759c466523208d7db947024302d979f4768a70476b6c9501fea94b"), looks := false }, kinds := [], alts := [], laidByText := true, laidKinds := [.data, .pinned], laidTests := true, laidLooks := .later }
def SocketWholeCardSaid : Prop := Claim7.holds Tryd.pinned (.plain (OpenSpec.ofChange socketWholeSpec)) socketWholeCard

/-- THE TIED CARD OF 'turnpikelaw22.SocketCuts'. -/
def socketCutsCard : Claim7 := { stood := { row := socketCutsRow, standIns := [], harness := (true, "51d238231b759c466523208d7db947024302d979f4768a70476b6c9501fea94b"), looks := false }, kinds := [], alts := [], laidByText := true, laidKinds := [.data, .pinned], laidTests := true, laidLooks := .later }
def SocketCutsCardSaid : Prop := Claim7.holds Tryd.pinned (.plain (OpenSpec.ofChange socketCutsSpec)) socketCutsCard

/-- THE TIED CARD OF 'turnpikelaw22.SocketParses'. -/
def socketParsesCard : Claim7 := { stood := { row := socketParsesRow, standIns := [], harness := (true, "51d238231b759c466523208d7db947024302d979f4768a70476b6c9501fea94b"), looks := false }, kinds := [], alts := [], laidByText := true, laidKinds := [.data, .pinned], laidTests := true, laidLooks := .later }
def SocketParsesCardSaid : Prop := Claim7.holds Tryd.pinned (.plain (OpenSpec.ofChange socketParsesSpec)) socketParsesCard

/-- THE TIED CARD OF 'turnpikelaw22.SocketPeers'. -/
def socketPeersCard : Claim7 := { stood := { row := socketPeersRow, standIns := [], harness := (true, "51d238231b759c466523208d7db947024302d979f4768a70476b6c9501fea94b"), looks := false }, kinds := [], alts := [], laidByText := true, laidKinds := [.data, .pinned], laidTests := true, laidLooks := .later }
def SocketPeersCardSaid : Prop := Claim7.holds Tryd.pinned (.plain (OpenSpec.ofChange socketPeersSpec)) socketPeersCard

/-- THE TIED CARD OF 'turnpikelaw22.SocketTwo'. -/
def socketTwoCard : Claim7 := { stood := { row := socketTwoRow, standIns := [], harness := (true, "51d238231b759c466523208d7db947024302d979f4768a70476b6c9501fea94b"), looks := false }, kinds := [], alts := [], laidByText := true, laidKinds := [.data, .pinned], laidTests := true, laidLooks := .later }
def SocketTwoCardSaid : Prop := Claim7.holds Tryd.pinned (.plain (OpenSpec.ofChange socketTwoSpec)) socketTwoCard

/-- THE TIED CARD OF 'turnpikelaw22.SocketBack'. -/
def socketBackCard : Claim7 := { stood := { row := socketBackRow, standIns := [], harness := (true, "51d238231b759c466523208d7db947024302d979f4768a70476b6c9501fea94b"), looks := false }, kinds := [], alts := [], laidByText := true, laidKinds := [.data, .pinned], laidTests := true, laidLooks := .later }
def SocketBackCardSaid : Prop := Claim7.holds Tryd.pinned (.plain (OpenSpec.ofChange socketBackSpec)) socketBackCard

/-- THE TIED CARD OF 'turnpikelaw22.SocketEchoes'. -/
def socketEchoesCard : Claim7 := { stood := { row := socketEchoesRow, standIns := [], harness := (true, "51d238231b759c466523208d7db947024302d979f4768a70476b6c9501fea94b"), looks := false }, kinds := [], alts := [], laidByText := true, laidKinds := [.data, .pinned], laidTests := true, laidLooks := .later }
def SocketEchoesCardSaid : Prop := Claim7.holds Tryd.pinned (.plain (OpenSpec.ofChange socketEchoesSpec)) socketEchoesCard

/-- THE TIED CARD OF 'turnpikelaw22.SocketRow'. -/
def socketRowCard : Claim7 := { stood := { row := socketRowRow, standIns := [], harness := (true, "51d238231b759c466523208d7db947024302d979f4768a70476b6c9501fea94b"), looks := false }, kinds := [], alts := [], laidByText := true, laidKinds := [.data, .pinned], laidTests := true, laidLooks := .later }
def SocketRowCardSaid : Prop := Claim7.holds Tryd.pinned (.plain (OpenSpec.ofChange socketRowSpec)) socketRowCard

/-- THE SECOND FORM's CARD OF 'turnpikelaw22.SocketPrints'. -/
def socketPrintsUptoCard : Claim7 := { stood := { row := socketPrintsUptoRow, standIns := [], harness := (true, "51d238231b759c466523208d7db947024302d979f4768a70476b6c9501fea94b"), looks := false }, kinds := [], alts := [], laidByText := true, laidKinds := [.data, .pinned], laidTests := true, laidLooks := .later }
def SocketPrintsUptoCardSaid : Prop := Claim7.holds Tryd.pinned (.plain (OpenSpec.upto socketPrintsSpec)) socketPrintsUptoCard

/-- THE SECOND FORM's CARD OF 'turnpikelaw22.SocketTexts'. -/
def socketTextsUptoCard : Claim7 := { stood := { row := socketTextsUptoRow, standIns := [], harness := (true, "51d238231b759c466523208d7db947024302d979f4768a70476b6c9501fea94b"), looks := false }, kinds := [], alts := [], laidByText := true, laidKinds := [.data, .pinned], laidTests := true, laidLooks := .later }
def SocketTextsUptoCardSaid : Prop := Claim7.holds Tryd.pinned (.plain (OpenSpec.upto socketTextsSpec)) socketTextsUptoCard

/-- THE SECOND FORM's CARD OF 'turnpikelaw22.SocketCloses'. -/
def socketClosesUptoCard : Claim7 := { stood := { row := socketClosesUptoRow, standIns := [], harness := (true, "51d238231b759c466523208d7db947024302d979f4768a70476b6c9501fea94b"), looks := false }, kinds := [], alts := [], laidByText := true, laidKinds := [.data, .pinned], laidTests := true, laidLooks := .later }
def SocketClosesUptoCardSaid : Prop := Claim7.holds Tryd.pinned (.plain (OpenSpec.upto socketClosesSpec)) socketClosesUptoCard

/-- THE SECOND FORM's CARD OF 'turnpikelaw22.SocketWhole'. -/
def socketWholeUptoCard : Claim7 := { stood := { row := socketWholeUptoRow, standIns := [], harness := (true, "51d238231b759c466523208d7db947024302d979f4768a70476b6c9501fea94b"), looks := false }, kinds := [], alts := [], laidByText := true, laidKinds := [.data, .pinned], laidTests := true, laidLooks := .later }
def SocketWholeUptoCardSaid : Prop := Claim7.holds Tryd.pinned (.plain (OpenSpec.upto socketWholeSpec)) socketWholeUptoCard

/-- THE SECOND FORM's CARD OF 'turnpikelaw22.SocketCuts'. -/
def socketCutsUptoCard : Claim7 := { stood := { row := socketCutsUptoRow, standIns := [], harness := (true, "51d238231b759c466523208d7db947024302d979f4768a70476b6c9501fea94b"), looks := false }, kinds := [], alts := [], laidByText := true, laidKinds := [.data, .pinned], laidTests := true, laidLooks := .later }
def SocketCutsUptoCardSaid : Prop := Claim7.holds Tryd.pinned (.plain (OpenSpec.upto socketCutsSpec)) socketCutsUptoCard

/-- THE SECOND FORM's CARD OF 'turnpikelaw22.SocketParses'. -/
def socketParsesUptoCard : Claim7 := { stood := { row := socketParsesUptoRow, standIns := [], harness := (true, "51d238231b759c466523208d7db947024302d979f4768a70476b6c9501fea94b"), looks := false }, kinds := [], alts := [], laidByText := true, laidKinds := [.data, .pinned], laidTests := true, laidLooks := .later }
def SocketParsesUptoCardSaid : Prop := Claim7.holds Tryd.pinned (.plain (OpenSpec.upto socketParsesSpec)) socketParsesUptoCard

/-- THE SECOND FORM's CARD OF 'turnpikelaw22.SocketPeers'. -/
def socketPeersUptoCard : Claim7 := { stood := { row := socketPeersUptoRow, standIns := [], harness := (true, "51d238231b759c466523208d7db947024302d979f4768a70476b6c9501fea94b"), looks := false }, kinds := [], alts := [], laidByText := true, laidKinds := [.data, .pinned], laidTests := true, laidLooks := .later }
def SocketPeersUptoCardSaid : Prop := Claim7.holds Tryd.pinned (.plain (OpenSpec.upto socketPeersSpec)) socketPeersUptoCard

/-- THE SECOND FORM's CARD OF 'turnpikelaw22.SocketTwo'. -/
def socketTwoUptoCard : Claim7 := { stood := { row := socketTwoUptoRow, standIns := [], harness := (true, "51d238231b759c466523208d7db947024302d979f4768a70476b6c9501fea94b"), looks := false }, kinds := [], alts := [], laidByText := true, laidKinds := [.data, .pinned], laidTests := true, laidLooks := .later }
def SocketTwoUptoCardSaid : Prop := Claim7.holds Tryd.pinned (.plain (OpenSpec.upto socketTwoSpec)) socketTwoUptoCard

/-- THE SECOND FORM's CARD OF 'turnpikelaw22.SocketBack'. -/
def socketBackUptoCard : Claim7 := { stood := { row := socketBackUptoRow, standIns := [], harness := (true, "51d238231b759c466523208d7db947024302d979f4768a70476b6c9501fea94b"), looks := false }, kinds := [], alts := [], laidByText := true, laidKinds := [.data, .pinned], laidTests := true, laidLooks := .later }
def SocketBackUptoCardSaid : Prop := Claim7.holds Tryd.pinned (.plain (OpenSpec.upto socketBackSpec)) socketBackUptoCard

/-- THE SECOND FORM's CARD OF 'turnpikelaw22.SocketEchoes'. -/
def socketEchoesUptoCard : Claim7 := { stood := { row := socketEchoesUptoRow, standIns := [], harness := (true, "51d238231b759c466523208d7db947024302d979f4768a70476b6c9501fea94b"), looks := false }, kinds := [], alts := [], laidByText := true, laidKinds := [.data, .pinned], laidTests := true, laidLooks := .later }
def SocketEchoesUptoCardSaid : Prop := Claim7.holds Tryd.pinned (.plain (OpenSpec.upto socketEchoesSpec)) socketEchoesUptoCard

/-- THE SECOND FORM's CARD OF 'turnpikelaw22.SocketRow'. -/
def socketRowUptoCard : Claim7 := { stood := { row := socketRowUptoRow, standIns := [], harness := (true, "51d238231b759c466523208d7db947024302d979f4768a70476b6c9501fea94b"), looks := false }, kinds := [], alts := [], laidByText := true, laidKinds := [.data, .pinned], laidTests := true, laidLooks := .later }
def SocketRowUptoCardSaid : Prop := Claim7.holds Tryd.pinned (.plain (OpenSpec.upto socketRowSpec)) socketRowUptoCard
end Rows
end Go.Proofs.YtmgfpjfamdbhbaaDoor
