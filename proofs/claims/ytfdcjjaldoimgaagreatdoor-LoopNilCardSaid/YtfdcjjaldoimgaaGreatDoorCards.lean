/-
  DERIVED. GIVEN WITH THE SEED: THE CARDS: each row of YtfdcjjaldoimgaaGreatDoorRows.lean that lists a variable, with what it lists TIED to the program's text (the seventh form; the later family's looks); each row that meets fmt, with fmt's text TOLD by the authors' own Lean function (tested against real Go, not proved from fmt's source: count such statements apart). THE CARD IS WHAT COUNTS. Prove the row's statement (the work); the ties are given (YtfdcjjaldoimgaaGreatDoorTie.lean); close each card by the builder's one call (the guide's Derived/Test/ToyasCard.lean, 'card_holds'). Laid BY PROGRAM, IN A SANDBOX (cutbox-door.mjs). By AI agents, Wed Nov 11 2026. No macro, syntax, notation, axiom, sorry.
-/
import Derived.Test.YtfdcjjaldoimgaaGreatDoorRows
import GoSem.ClaimSeven
namespace Go.Proofs.YtfdcjjaldoimgaaGreatDoor
namespace Rows

/-- THE TIED CARD OF 'turnpikelaw27.LoopNil'. -/
def loopNilCard : Claim7 := { stood := { row := loopNilRow, standIns := [], harness := (true, "0a04b06c4bac5bde02f5cc86203e10409e289acef7c8e01ecdc9b1f5ca2d65e0"), looks := true }, kinds := [], alts := [], laidByText := true, laidKinds := [.pinned, .data, .data, .data, .data, .data, .handle], laidTests := true, laidLooks := .later }
def LoopNilCardSaid : Prop := Claim7.holds Tryz.pinned (.plain (OpenSpec.ofChange loopNilSpec)) loopNilCard

/-- THE SECOND FORM's CARD OF 'turnpikelaw27.LoopNil'. -/
def loopNilUptoCard : Claim7 := { stood := { row := loopNilUptoRow, standIns := [], harness := (true, "0a04b06c4bac5bde02f5cc86203e10409e289acef7c8e01ecdc9b1f5ca2d65e0"), looks := true }, kinds := [], alts := [], laidByText := true, laidKinds := [.pinned, .data, .data, .data, .data, .data, .handle], laidTests := true, laidLooks := .later }
def LoopNilUptoCardSaid : Prop := Claim7.holds Tryz.pinned (.plain (OpenSpec.upto loopNilSpec)) loopNilUptoCard
end Rows
end Go.Proofs.YtfdcjjaldoimgaaGreatDoor
