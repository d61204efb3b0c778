/-
  DERIVED. GIVEN WITH THE SEED: THE CARDS: each row of YtnnjnjginlkloaaGreatDoorRows.lean that lists a variable, with what it lists TIED to the program's text (the seventh form; the later family's looks); each row that meets fmt, with fmt's text TOLD by the authors' own Lean function (tested against real Go, not proved from fmt's source: count such statements apart). THE CARD IS WHAT COUNTS. Prove the row's statement (the work); the ties are given (YtnnjnjginlkloaaGreatDoorTie.lean); close each card by the builder's one call (the guide's Derived/Test/ToyasCard.lean, 'card_holds'). Laid BY PROGRAM, IN A SANDBOX (cutbox-door.mjs). By AI agents, Wed Nov 11 2026. No macro, syntax, notation, axiom, sorry.
-/
import Derived.Test.YtnnjnjginlkloaaGreatDoorRows
import GoSem.ClaimSeven
namespace Go.Proofs.YtnnjnjginlkloaaGreatDoor
namespace Rows

/-- THE TIED CARD OF 'turnpikelaw23.WholeNil'. -/
def wholeNilCard : Claim7 := { stood := { row := wholeNilRow, standIns := [], harness := (true, "6c4a6d98e03071d98ec86d49a4e9a54a522361a66a663a31a74df9c908f14612"), looks := true }, kinds := [], alts := [], laidByText := true, laidKinds := [.data, .pinned, .data, .data, .data, .data, .handle], laidTests := true, laidLooks := .later }
def WholeNilCardSaid : Prop := Claim7.holds Tryz.pinned (.plain (OpenSpec.ofChange wholeNilSpec)) wholeNilCard

/-- THE SECOND FORM's CARD OF 'turnpikelaw23.WholeNil'. -/
def wholeNilUptoCard : Claim7 := { stood := { row := wholeNilUptoRow, standIns := [], harness := (true, "6c4a6d98e03071d98ec86d49a4e9a54a522361a66a663a31a74df9c908f14612"), looks := true }, kinds := [], alts := [], laidByText := true, laidKinds := [.data, .pinned, .data, .data, .data, .data, .handle], laidTests := true, laidLooks := .later }
def WholeNilUptoCardSaid : Prop := Claim7.holds Tryz.pinned (.plain (OpenSpec.upto wholeNilSpec)) wholeNilUptoCard
end Rows
end Go.Proofs.YtnnjnjginlkloaaGreatDoor
