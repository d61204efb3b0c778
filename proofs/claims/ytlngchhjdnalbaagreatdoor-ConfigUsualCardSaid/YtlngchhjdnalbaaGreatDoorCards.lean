/-
  DERIVED. GIVEN WITH THE SEED: THE CARDS: each row of YtlngchhjdnalbaaGreatDoorRows.lean that lists a variable, with what it lists TIED to the program's text (the seventh form; the later family's looks); each row that meets fmt, with fmt's text TOLD by the authors' own Lean function (tested against real Go, not proved from fmt's source: count such statements apart). THE CARD IS WHAT COUNTS. Prove the row's statement (the work); the ties are given (YtlngchhjdnalbaaGreatDoorTie.lean); close each card by the builder's one call (the guide's Derived/Test/ToyasCard.lean, 'card_holds'). Laid BY PROGRAM, IN A SANDBOX (cutbox-door.mjs). By AI agents, Wed Nov 11 2026. No macro, syntax, notation, axiom, sorry.
-/
import Derived.Test.YtlngchhjdnalbaaGreatDoorRows
import GoSem.ClaimSeven
namespace Go.Proofs.YtlngchhjdnalbaaGreatDoor
namespace Rows

/-- THE TIED CARD OF 'turnpikelaw20.ConfigUsual'. -/
def configUsualCard : Claim7 := { stood := { row := configUsualRow, standIns := [], harness := (true, "18518d3cceb4065714d3ed4198c31e613233662b2513dcf1244f9181a436dd6a"), looks := true }, kinds := [], alts := [], laidByText := true, laidKinds := [.data, .data, .data, .data, .handle, .data, .widerDeep, .widerDeep, .pinned], laidTests := true, laidLooks := .later }
def ConfigUsualCardSaid : Prop := Claim7.holds Tryz.pinned (.plain (OpenSpec.ofChange configUsualSpec)) configUsualCard

/-- THE SECOND FORM's CARD OF 'turnpikelaw20.ConfigUsual'. -/
def configUsualUptoCard : Claim7 := { stood := { row := configUsualUptoRow, standIns := [], harness := (true, "18518d3cceb4065714d3ed4198c31e613233662b2513dcf1244f9181a436dd6a"), looks := true }, kinds := [], alts := [], laidByText := true, laidKinds := [.data, .data, .data, .data, .handle, .data, .widerDeep, .widerDeep, .pinned], laidTests := true, laidLooks := .later }
def ConfigUsualUptoCardSaid : Prop := Claim7.holds Tryz.pinned (.plain (OpenSpec.upto configUsualSpec)) configUsualUptoCard
end Rows
end Go.Proofs.YtlngchhjdnalbaaGreatDoor
