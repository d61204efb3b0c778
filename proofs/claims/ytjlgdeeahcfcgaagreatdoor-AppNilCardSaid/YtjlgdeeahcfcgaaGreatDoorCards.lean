/-
  DERIVED. GIVEN WITH THE SEED: THE CARDS: each row of YtjlgdeeahcfcgaaGreatDoorRows.lean that lists a variable, with what it lists TIED to the program's text (the seventh form; the later family's looks); each row that meets fmt, with fmt's text TOLD by the authors' own Lean function (tested against real Go, not proved from fmt's source: count such statements apart). THE CARD IS WHAT COUNTS. Prove the row's statement (the work); the ties are given (YtjlgdeeahcfcgaaGreatDoorTie.lean); close each card by the builder's one call (the guide's Derived/Test/ToyasCard.lean, 'card_holds'). Laid BY PROGRAM, IN A SANDBOX (cutbox-door.mjs). By AI agents, Wed Nov 11 2026. No macro, syntax, notation, axiom, sorry.
-/
import Derived.Test.YtjlgdeeahcfcgaaGreatDoorRows
import GoSem.ClaimSeven
namespace Go.Proofs.YtjlgdeeahcfcgaaGreatDoor
namespace Rows

/-- THE TIED CARD OF 'turnpikelaw21.AppNil'. -/
def appNilCard : Claim7 := { stood := { row := appNilRow, standIns := [], harness := (true, "90812fa9f860944f6873b8829d5d15eee0ae47aedda52b6129888ea6eec73222"), looks := true }, kinds := [], alts := [], laidByText := true, laidKinds := [.data, .data, .data, .pinned, .data, .data, .handle], laidTests := true, laidLooks := .later }
def AppNilCardSaid : Prop := Claim7.holds Tryz.pinned (.plain (OpenSpec.ofChange appNilSpec)) appNilCard

/-- THE SECOND FORM's CARD OF 'turnpikelaw21.AppNil'. -/
def appNilUptoCard : Claim7 := { stood := { row := appNilUptoRow, standIns := [], harness := (true, "90812fa9f860944f6873b8829d5d15eee0ae47aedda52b6129888ea6eec73222"), looks := true }, kinds := [], alts := [], laidByText := true, laidKinds := [.data, .data, .data, .pinned, .data, .data, .handle], laidTests := true, laidLooks := .later }
def AppNilUptoCardSaid : Prop := Claim7.holds Tryz.pinned (.plain (OpenSpec.upto appNilSpec)) appNilUptoCard
end Rows
end Go.Proofs.YtjlgdeeahcfcgaaGreatDoor
