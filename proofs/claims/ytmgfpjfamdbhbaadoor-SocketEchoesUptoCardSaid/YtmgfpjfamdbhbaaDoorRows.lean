/-
  NARROWER THAN 'FOR EVERY INPUT', by the rows' own cells (each row's printed sentence says how): SocketPrints: laid · SocketTexts: laid · SocketCloses: laid · SocketWhole: laid · SocketCuts: laid · SocketParses: laid · SocketPeers: laid · SocketTwo: laid · SocketBack: laid · SocketEchoes: laid · SocketRow: laid.
  DERIVED. THE GIVEN ROWS OF THIS SEAT. 11 by the template 'for every input the law returns true; each argument reads behind the call as it read before'; 0 by the template 'total and deterministic' (their statements: YtmgfpjfamdbhbaaDoorTotals.lean).
  GIVEN WITH THE SEED: the statements are not yours to turn. If you find one false, say at which input.
  Laid BY PROGRAM, IN A SANDBOX (cutbox-rows.mjs): the forced cells as the released guide's own fill.sh prints them over the translation 9dd4318c01d122d7… (all of the seat's roots in one cut). By AI agents, Wed Nov 11 2026. No macro, syntax, notation, axiom, sorry.
-/
import Derived.Test.YtmgfpjfamdbhbaaDoorChecked
import GoSem.PinnedTables
import GoSem.Claim
import GoSem.ClaimJoined
import GoSem.ClaimMapViews
import Derived.JoinedTies
import Derived.KernelRfl
namespace Go.Proofs.YtmgfpjfamdbhbaaDoor
/- THE CELL 'sum', in the pinned program and in every row, IS THE sha256 OF THE DUMP (.gsa) THAT YtmgfpjfamdbhbaaDoorProg.lean LOADS. Nothing in Lean hashes anything: it is a label: what it is worth is what the hold of that sum in a sandbox is worth. -/
noncomputable def Tryd.pinned : Pinned := { name := "ytmgfpjfamdbhbaadoor", sum := "9dd4318c01d122d7b1d809a4d77967720a52e6648409be50ab5dae4ac86c9f48", checked := Tryd.checked }
namespace Rows
def none {H : Type} : Left H := { results := [], args := [] }

/- WHAT THE LISTED PACKAGE-LEVEL VARIABLES READ AS WHEN THE CALL BEGINS. Each datum BY PROGRAM (the guide's laid-datum.mjs) off the statement by which the dump's own 'gosem.cut.vars' lays the variable. In a bare row this is a premise. The card (YtmgfpjfamdbhbaaDoorCards.lean) ties it to the program's text. -/
def laid_unicode_utf8_acceptRanges {H : Type} : DataW H := .agg [.agg [.lit (.int .u8 128), .lit (.int .u8 191)], .agg [.lit (.int .u8 160), .lit (.int .u8 191)], .agg [.lit (.int .u8 128), .lit (.int .u8 159)], .agg [.lit (.int .u8 144), .lit (.int .u8 191)], .agg [.lit (.int .u8 128), .lit (.int .u8 143)], .agg [.lit (.int .u8 0), .lit (.int .u8 0)], .agg [.lit (.int .u8 0), .lit (.int .u8 0)], .agg [.lit (.int .u8 0), .lit (.int .u8 0)], .agg [.lit (.int .u8 0), .lit (.int .u8 0)], .agg [.lit (.int .u8 0), .lit (.int .u8 0)], .agg [.lit (.int .u8 0), .lit (.int .u8 0)], .agg [.lit (.int .u8 0), .lit (.int .u8 0)], .agg [.lit (.int .u8 0), .lit (.int .u8 0)], .agg [.lit (.int .u8 0), .lit (.int .u8 0)], .agg [.lit (.int .u8 0), .lit (.int .u8 0)], .agg [.lit (.int .u8 0), .lit (.int .u8 0)]]
/-- One of Go's own tables, pinned by name: the form's constant. -/
def laid_unicode_utf8_first : DataW Unit := Go.Pinned.utf8First

/-- 'turnpikelaw22.SocketPrints': WHATEVER THE INPUT: true; the input reads as it did. -/
def socketPrintsSpec : ChangeSpec := { name := "socketPrints", fn := fun _ => fun
  | [d] => { results := [.lit (.bool true)], args := [d] }
  | _ => none }
def socketPrintsRow : OpenClaim := { program := "ytmgfpjfamdbhbaadoor", sum := "9dd4318c01d122d7b1d809a4d77967720a52e6648409be50ab5dae4ac86c9f48", func := "turnpike/turnpikelaw22.SocketPrints", spec := "socketPrints", inPlace := ["internal/abi.NoEscape"], named := ["unicode/utf8.first", "unicode/utf8.acceptRanges"], apart := false, laid := [("unicode/utf8.acceptRanges", laid_unicode_utf8_acceptRanges), ("unicode/utf8.first", laid_unicode_utf8_first)] }
def SocketPrintsSaid : Prop := socketPrintsRow.holds Tryd.pinned (OpenSpec.ofChange socketPrintsSpec)

/-- ITS FALSE NEIGHBOUR: 'it returns false'. Refute it at one input. -/
def socketPrintsWrong : ChangeSpec := { name := "socketPrints", fn := fun _ => fun
  | [d] => { results := [.lit (.bool false)], args := [d] }
  | _ => none }
def SocketPrintsWrongFalsely : Prop := socketPrintsRow.holds Tryd.pinned (OpenSpec.ofChange socketPrintsWrong)

/-- 'turnpikelaw22.SocketTexts': WHATEVER THE INPUT: true; the input reads as it did. -/
def socketTextsSpec : ChangeSpec := { name := "socketTexts", fn := fun _ => fun
  | [d] => { results := [.lit (.bool true)], args := [d] }
  | _ => none }
def socketTextsRow : OpenClaim := { program := "ytmgfpjfamdbhbaadoor", sum := "9dd4318c01d122d7b1d809a4d77967720a52e6648409be50ab5dae4ac86c9f48", func := "turnpike/turnpikelaw22.SocketTexts", spec := "socketTexts", inPlace := ["internal/abi.NoEscape"], named := ["unicode/utf8.first", "unicode/utf8.acceptRanges"], apart := false, laid := [("unicode/utf8.acceptRanges", laid_unicode_utf8_acceptRanges), ("unicode/utf8.first", laid_unicode_utf8_first)] }
def SocketTextsSaid : Prop := socketTextsRow.holds Tryd.pinned (OpenSpec.ofChange socketTextsSpec)

/-- ITS FALSE NEIGHBOUR: 'it returns false'. Refute it at one input. -/
def socketTextsWrong : ChangeSpec := { name := "socketTexts", fn := fun _ => fun
  | [d] => { results := [.lit (.bool false)], args := [d] }
  | _ => none }
def SocketTextsWrongFalsely : Prop := socketTextsRow.holds Tryd.pinned (OpenSpec.ofChange socketTextsWrong)

/-- 'turnpikelaw22.SocketCloses': WHATEVER THE INPUT: true; the input reads as it did. -/
def socketClosesSpec : ChangeSpec := { name := "socketCloses", fn := fun _ => fun
  | [d1, d2, d3] => { results := [.lit (.bool true)], args := [d1, d2, d3] }
  | _ => none }
def socketClosesRow : OpenClaim := { program := "ytmgfpjfamdbhbaadoor", sum := "9dd4318c01d122d7b1d809a4d77967720a52e6648409be50ab5dae4ac86c9f48", func := "turnpike/turnpikelaw22.SocketCloses", spec := "socketCloses", inPlace := ["internal/abi.NoEscape"], named := ["unicode/utf8.first", "unicode/utf8.acceptRanges"], apart := false, laid := [("unicode/utf8.acceptRanges", laid_unicode_utf8_acceptRanges), ("unicode/utf8.first", laid_unicode_utf8_first)] }
def SocketClosesSaid : Prop := socketClosesRow.holds Tryd.pinned (OpenSpec.ofChange socketClosesSpec)

/-- ITS FALSE NEIGHBOUR: 'it returns false'. Refute it at one input. -/
def socketClosesWrong : ChangeSpec := { name := "socketCloses", fn := fun _ => fun
  | [d1, d2, d3] => { results := [.lit (.bool false)], args := [d1, d2, d3] }
  | _ => none }
def SocketClosesWrongFalsely : Prop := socketClosesRow.holds Tryd.pinned (OpenSpec.ofChange socketClosesWrong)

/-- 'turnpikelaw22.SocketWhole': WHATEVER THE INPUT: true; the input reads as it did. -/
def socketWholeSpec : ChangeSpec := { name := "socketWhole", fn := fun _ => fun
  | [d1, d2] => { results := [.lit (.bool true)], args := [d1, d2] }
  | _ => none }
def socketWholeRow : OpenClaim := { program := "ytmgfpjfamdbhbaadoor", sum := "9dd4318c01d122d7b1d809a4d77967720a52e6648409be50ab5dae4ac86c9f48", func := "turnpike/turnpikelaw22.SocketWhole", spec := "socketWhole", inPlace := ["internal/abi.NoEscape"], named := ["unicode/utf8.first", "unicode/utf8.acceptRanges"], apart := false, laid := [("unicode/utf8.acceptRanges", laid_unicode_utf8_acceptRanges), ("unicode/utf8.first", laid_unicode_utf8_first)] }
def SocketWholeSaid : Prop := socketWholeRow.holds Tryd.pinned (OpenSpec.ofChange socketWholeSpec)

/-- ITS FALSE NEIGHBOUR: 'it returns false'. Refute it at one input. -/
def socketWholeWrong : ChangeSpec := { name := "socketWhole", fn := fun _ => fun
  | [d1, d2] => { results := [.lit (.bool false)], args := [d1, d2] }
  | _ => none }
def SocketWholeWrongFalsely : Prop := socketWholeRow.holds Tryd.pinned (OpenSpec.ofChange socketWholeWrong)

/-- 'turnpikelaw22.SocketCuts': WHATEVER THE INPUT: true; the input reads as it did. -/
def socketCutsSpec : ChangeSpec := { name := "socketCuts", fn := fun _ => fun
  | [d1, d2, d3] => { results := [.lit (.bool true)], args := [d1, d2, d3] }
  | _ => none }
def socketCutsRow : OpenClaim := { program := "ytmgfpjfamdbhbaadoor", sum := "9dd4318c01d122d7b1d809a4d77967720a52e6648409be50ab5dae4ac86c9f48", func := "turnpike/turnpikelaw22.SocketCuts", spec := "socketCuts", inPlace := ["internal/abi.NoEscape"], named := ["unicode/utf8.first", "unicode/utf8.acceptRanges"], apart := false, laid := [("unicode/utf8.acceptRanges", laid_unicode_utf8_acceptRanges), ("unicode/utf8.first", laid_unicode_utf8_first)] }
def SocketCutsSaid : Prop := socketCutsRow.holds Tryd.pinned (OpenSpec.ofChange socketCutsSpec)

/-- ITS FALSE NEIGHBOUR: 'it returns false'. Refute it at one input. -/
def socketCutsWrong : ChangeSpec := { name := "socketCuts", fn := fun _ => fun
  | [d1, d2, d3] => { results := [.lit (.bool false)], args := [d1, d2, d3] }
  | _ => none }
def SocketCutsWrongFalsely : Prop := socketCutsRow.holds Tryd.pinned (OpenSpec.ofChange socketCutsWrong)

/-- 'turnpikelaw22.SocketParses': WHATEVER THE INPUT: true; the input reads as it did. -/
def socketParsesSpec : ChangeSpec := { name := "socketParses", fn := fun _ => fun
  | [d1, d2] => { results := [.lit (.bool true)], args := [d1, d2] }
  | _ => none }
def socketParsesRow : OpenClaim := { program := "ytmgfpjfamdbhbaadoor", sum := "9dd4318c01d122d7b1d809a4d77967720a52e6648409be50ab5dae4ac86c9f48", func := "turnpike/turnpikelaw22.SocketParses", spec := "socketParses", inPlace := ["internal/abi.NoEscape"], named := ["unicode/utf8.first", "unicode/utf8.acceptRanges"], apart := false, laid := [("unicode/utf8.acceptRanges", laid_unicode_utf8_acceptRanges), ("unicode/utf8.first", laid_unicode_utf8_first)] }
def SocketParsesSaid : Prop := socketParsesRow.holds Tryd.pinned (OpenSpec.ofChange socketParsesSpec)

/-- ITS FALSE NEIGHBOUR: 'it returns false'. Refute it at one input. -/
def socketParsesWrong : ChangeSpec := { name := "socketParses", fn := fun _ => fun
  | [d1, d2] => { results := [.lit (.bool false)], args := [d1, d2] }
  | _ => none }
def SocketParsesWrongFalsely : Prop := socketParsesRow.holds Tryd.pinned (OpenSpec.ofChange socketParsesWrong)

/-- 'turnpikelaw22.SocketPeers': WHATEVER THE INPUT: true; the input reads as it did. -/
def socketPeersSpec : ChangeSpec := { name := "socketPeers", fn := fun _ => fun
  | [d1, d2] => { results := [.lit (.bool true)], args := [d1, d2] }
  | _ => none }
def socketPeersRow : OpenClaim := { program := "ytmgfpjfamdbhbaadoor", sum := "9dd4318c01d122d7b1d809a4d77967720a52e6648409be50ab5dae4ac86c9f48", func := "turnpike/turnpikelaw22.SocketPeers", spec := "socketPeers", inPlace := ["internal/abi.NoEscape"], named := ["unicode/utf8.first", "unicode/utf8.acceptRanges"], apart := false, laid := [("unicode/utf8.acceptRanges", laid_unicode_utf8_acceptRanges), ("unicode/utf8.first", laid_unicode_utf8_first)] }
def SocketPeersSaid : Prop := socketPeersRow.holds Tryd.pinned (OpenSpec.ofChange socketPeersSpec)

/-- ITS FALSE NEIGHBOUR: 'it returns false'. Refute it at one input. -/
def socketPeersWrong : ChangeSpec := { name := "socketPeers", fn := fun _ => fun
  | [d1, d2] => { results := [.lit (.bool false)], args := [d1, d2] }
  | _ => none }
def SocketPeersWrongFalsely : Prop := socketPeersRow.holds Tryd.pinned (OpenSpec.ofChange socketPeersWrong)

/-- 'turnpikelaw22.SocketTwo': WHATEVER THE INPUT: true; the input reads as it did. -/
def socketTwoSpec : ChangeSpec := { name := "socketTwo", fn := fun _ => fun
  | [d1, d2, d3] => { results := [.lit (.bool true)], args := [d1, d2, d3] }
  | _ => none }
def socketTwoRow : OpenClaim := { program := "ytmgfpjfamdbhbaadoor", sum := "9dd4318c01d122d7b1d809a4d77967720a52e6648409be50ab5dae4ac86c9f48", func := "turnpike/turnpikelaw22.SocketTwo", spec := "socketTwo", inPlace := ["internal/abi.NoEscape"], named := ["unicode/utf8.first", "unicode/utf8.acceptRanges"], apart := false, laid := [("unicode/utf8.acceptRanges", laid_unicode_utf8_acceptRanges), ("unicode/utf8.first", laid_unicode_utf8_first)] }
def SocketTwoSaid : Prop := socketTwoRow.holds Tryd.pinned (OpenSpec.ofChange socketTwoSpec)

/-- ITS FALSE NEIGHBOUR: 'it returns false'. Refute it at one input. -/
def socketTwoWrong : ChangeSpec := { name := "socketTwo", fn := fun _ => fun
  | [d1, d2, d3] => { results := [.lit (.bool false)], args := [d1, d2, d3] }
  | _ => none }
def SocketTwoWrongFalsely : Prop := socketTwoRow.holds Tryd.pinned (OpenSpec.ofChange socketTwoWrong)

/-- 'turnpikelaw22.SocketBack': WHATEVER THE INPUT: true; the input reads as it did. -/
def socketBackSpec : ChangeSpec := { name := "socketBack", fn := fun _ => fun
  | [d1, d2, d3] => { results := [.lit (.bool true)], args := [d1, d2, d3] }
  | _ => none }
def socketBackRow : OpenClaim := { program := "ytmgfpjfamdbhbaadoor", sum := "9dd4318c01d122d7b1d809a4d77967720a52e6648409be50ab5dae4ac86c9f48", func := "turnpike/turnpikelaw22.SocketBack", spec := "socketBack", inPlace := ["internal/abi.NoEscape"], named := ["unicode/utf8.first", "unicode/utf8.acceptRanges"], apart := false, laid := [("unicode/utf8.acceptRanges", laid_unicode_utf8_acceptRanges), ("unicode/utf8.first", laid_unicode_utf8_first)] }
def SocketBackSaid : Prop := socketBackRow.holds Tryd.pinned (OpenSpec.ofChange socketBackSpec)

/-- ITS FALSE NEIGHBOUR: 'it returns false'. Refute it at one input. -/
def socketBackWrong : ChangeSpec := { name := "socketBack", fn := fun _ => fun
  | [d1, d2, d3] => { results := [.lit (.bool false)], args := [d1, d2, d3] }
  | _ => none }
def SocketBackWrongFalsely : Prop := socketBackRow.holds Tryd.pinned (OpenSpec.ofChange socketBackWrong)

/-- 'turnpikelaw22.SocketEchoes': WHATEVER THE INPUT: true; the input reads as it did. -/
def socketEchoesSpec : ChangeSpec := { name := "socketEchoes", fn := fun _ => fun
  | [d1, d2] => { results := [.lit (.bool true)], args := [d1, d2] }
  | _ => none }
def socketEchoesRow : OpenClaim := { program := "ytmgfpjfamdbhbaadoor", sum := "9dd4318c01d122d7b1d809a4d77967720a52e6648409be50ab5dae4ac86c9f48", func := "turnpike/turnpikelaw22.SocketEchoes", spec := "socketEchoes", inPlace := ["internal/abi.NoEscape"], named := ["unicode/utf8.first", "unicode/utf8.acceptRanges"], apart := false, laid := [("unicode/utf8.acceptRanges", laid_unicode_utf8_acceptRanges), ("unicode/utf8.first", laid_unicode_utf8_first)] }
def SocketEchoesSaid : Prop := socketEchoesRow.holds Tryd.pinned (OpenSpec.ofChange socketEchoesSpec)

/-- ITS FALSE NEIGHBOUR: 'it returns false'. Refute it at one input. -/
def socketEchoesWrong : ChangeSpec := { name := "socketEchoes", fn := fun _ => fun
  | [d1, d2] => { results := [.lit (.bool false)], args := [d1, d2] }
  | _ => none }
def SocketEchoesWrongFalsely : Prop := socketEchoesRow.holds Tryd.pinned (OpenSpec.ofChange socketEchoesWrong)

/-- 'turnpikelaw22.SocketRow': WHATEVER THE INPUT: true; the input reads as it did. -/
def socketRowSpec : ChangeSpec := { name := "socketRow", fn := fun _ => fun
  | [d1, d2] => { results := [.lit (.bool true)], args := [d1, d2] }
  | _ => none }
def socketRowRow : OpenClaim := { program := "ytmgfpjfamdbhbaadoor", sum := "9dd4318c01d122d7b1d809a4d77967720a52e6648409be50ab5dae4ac86c9f48", func := "turnpike/turnpikelaw22.SocketRow", spec := "socketRow", inPlace := ["internal/abi.NoEscape"], named := ["unicode/utf8.first", "unicode/utf8.acceptRanges"], apart := false, laid := [("unicode/utf8.acceptRanges", laid_unicode_utf8_acceptRanges), ("unicode/utf8.first", laid_unicode_utf8_first)] }
def SocketRowSaid : Prop := socketRowRow.holds Tryd.pinned (OpenSpec.ofChange socketRowSpec)

/-- ITS FALSE NEIGHBOUR: 'it returns false'. Refute it at one input. -/
def socketRowWrong : ChangeSpec := { name := "socketRow", fn := fun _ => fun
  | [d1, d2] => { results := [.lit (.bool false)], args := [d1, d2] }
  | _ => none }
def SocketRowWrongFalsely : Prop := socketRowRow.holds Tryd.pinned (OpenSpec.ofChange socketRowWrong)

/- THE SECOND FORM. 'bulk': how many values and letters a reading holds, each counted each time it is reached (what is shared counts as often as it is met; a slice's spare places count too). A statement '..UptoSaid' is the law's where the arguments, and the package variables that the reading takes, are together of bulk at most 1048576: NARROWER than '..Said'. Prove '..Said' where nothing that the law and all that it calls make is longer than what came in: it says more and counts as full. Else prove '..UptoSaid'. A law counts once. -/
mutual
def uptoBulk {H : Type} : DataW H → Nat
  | .lit (.string bytes) => bytes.length + 1
  | .lit _ => 1
  | .nil => 1
  | .ptr d => uptoBulk d + 1
  | .slice elems spare => uptoBulkAll elems + uptoBulkAll spare + 1
  | .agg parts => uptoBulkAll parts + 1
  | .iface _ d => uptoBulk d + 1
  | .map entries => uptoBulkEntries entries + 1
  | .held _ => 1
def uptoBulkAll {H : Type} : List (DataW H) → Nat
  | [] => 0
  | d :: r => uptoBulk d + uptoBulkAll r
def uptoBulkEntries {H : Type} : List (Lit × DataW H) → Nat
  | [] => 0
  | x :: r => uptoBulkEntry x + uptoBulkEntries r
def uptoBulkEntry {H : Type} : Lit × DataW H → Nat
  | (.string bytes, d) => bytes.length + uptoBulk d + 1
  | (_, d) => uptoBulk d + 1
 end
def uptoSmall : (H : Type) → List (DataW H) → Bool := fun _ ds => decide (uptoBulkAll ds ≤ 1048576)
def OpenSpec.upto (s : _root_.Go.ChangeSpec) : _root_.Go.OpenSpec := { _root_.Go.OpenSpec.ofChange s with cond := some uptoSmall }

/-- 'turnpikelaw22.SocketPrints', WHERE WHAT IT READS IS OF BULK AT MOST 1048576: true; the input reads as it did. -/
def socketPrintsUptoRow : OpenClaim := { program := "ytmgfpjfamdbhbaadoor", sum := "9dd4318c01d122d7b1d809a4d77967720a52e6648409be50ab5dae4ac86c9f48", func := "turnpike/turnpikelaw22.SocketPrints", spec := "socketPrints", inPlace := ["internal/abi.NoEscape"], named := ["unicode/utf8.first", "unicode/utf8.acceptRanges"], apart := false, laid := [("unicode/utf8.acceptRanges", laid_unicode_utf8_acceptRanges), ("unicode/utf8.first", laid_unicode_utf8_first)], narrowed := true }
def SocketPrintsUptoSaid : Prop := socketPrintsUptoRow.holds Tryd.pinned (OpenSpec.upto socketPrintsSpec)

/-- 'turnpikelaw22.SocketTexts', WHERE WHAT IT READS IS OF BULK AT MOST 1048576: true; the input reads as it did. -/
def socketTextsUptoRow : OpenClaim := { program := "ytmgfpjfamdbhbaadoor", sum := "9dd4318c01d122d7b1d809a4d77967720a52e6648409be50ab5dae4ac86c9f48", func := "turnpike/turnpikelaw22.SocketTexts", spec := "socketTexts", inPlace := ["internal/abi.NoEscape"], named := ["unicode/utf8.first", "unicode/utf8.acceptRanges"], apart := false, laid := [("unicode/utf8.acceptRanges", laid_unicode_utf8_acceptRanges), ("unicode/utf8.first", laid_unicode_utf8_first)], narrowed := true }
def SocketTextsUptoSaid : Prop := socketTextsUptoRow.holds Tryd.pinned (OpenSpec.upto socketTextsSpec)

/-- 'turnpikelaw22.SocketCloses', WHERE WHAT IT READS IS OF BULK AT MOST 1048576: true; the input reads as it did. -/
def socketClosesUptoRow : OpenClaim := { program := "ytmgfpjfamdbhbaadoor", sum := "9dd4318c01d122d7b1d809a4d77967720a52e6648409be50ab5dae4ac86c9f48", func := "turnpike/turnpikelaw22.SocketCloses", spec := "socketCloses", inPlace := ["internal/abi.NoEscape"], named := ["unicode/utf8.first", "unicode/utf8.acceptRanges"], apart := false, laid := [("unicode/utf8.acceptRanges", laid_unicode_utf8_acceptRanges), ("unicode/utf8.first", laid_unicode_utf8_first)], narrowed := true }
def SocketClosesUptoSaid : Prop := socketClosesUptoRow.holds Tryd.pinned (OpenSpec.upto socketClosesSpec)

/-- 'turnpikelaw22.SocketWhole', WHERE WHAT IT READS IS OF BULK AT MOST 1048576: true; the input reads as it did. -/
def socketWholeUptoRow : OpenClaim := { program := "ytmgfpjfamdbhbaadoor", sum := "9dd4318c01d122d7b1d809a4d77967720a52e6648409be50ab5dae4ac86c9f48", func := "turnpike/turnpikelaw22.SocketWhole", spec := "socketWhole", inPlace := ["internal/abi.NoEscape"], named := ["unicode/utf8.first", "unicode/utf8.acceptRanges"], apart := false, laid := [("unicode/utf8.acceptRanges", laid_unicode_utf8_acceptRanges), ("unicode/utf8.first", laid_unicode_utf8_first)], narrowed := true }
def SocketWholeUptoSaid : Prop := socketWholeUptoRow.holds Tryd.pinned (OpenSpec.upto socketWholeSpec)

/-- 'turnpikelaw22.SocketCuts', WHERE WHAT IT READS IS OF BULK AT MOST 1048576: true; the input reads as it did. -/
def socketCutsUptoRow : OpenClaim := { program := "ytmgfpjfamdbhbaadoor", sum := "9dd4318c01d122d7b1d809a4d77967720a52e6648409be50ab5dae4ac86c9f48", func := "turnpike/turnpikelaw22.SocketCuts", spec := "socketCuts", inPlace := ["internal/abi.NoEscape"], named := ["unicode/utf8.first", "unicode/utf8.acceptRanges"], apart := false, laid := [("unicode/utf8.acceptRanges", laid_unicode_utf8_acceptRanges), ("unicode/utf8.first", laid_unicode_utf8_first)], narrowed := true }
def SocketCutsUptoSaid : Prop := socketCutsUptoRow.holds Tryd.pinned (OpenSpec.upto socketCutsSpec)

/-- 'turnpikelaw22.SocketParses', WHERE WHAT IT READS IS OF BULK AT MOST 1048576: true; the input reads as it did. -/
def socketParsesUptoRow : OpenClaim := { program := "ytmgfpjfamdbhbaadoor", sum := "9dd4318c01d122d7b1d809a4d77967720a52e6648409be50ab5dae4ac86c9f48", func := "turnpike/turnpikelaw22.SocketParses", spec := "socketParses", inPlace := ["internal/abi.NoEscape"], named := ["unicode/utf8.first", "unicode/utf8.acceptRanges"], apart := false, laid := [("unicode/utf8.acceptRanges", laid_unicode_utf8_acceptRanges), ("unicode/utf8.first", laid_unicode_utf8_first)], narrowed := true }
def SocketParsesUptoSaid : Prop := socketParsesUptoRow.holds Tryd.pinned (OpenSpec.upto socketParsesSpec)

/-- 'turnpikelaw22.SocketPeers', WHERE WHAT IT READS IS OF BULK AT MOST 1048576: true; the input reads as it did. -/
def socketPeersUptoRow : OpenClaim := { program := "ytmgfpjfamdbhbaadoor", sum := "9dd4318c01d122d7b1d809a4d77967720a52e6648409be50ab5dae4ac86c9f48", func := "turnpike/turnpikelaw22.SocketPeers", spec := "socketPeers", inPlace := ["internal/abi.NoEscape"], named := ["unicode/utf8.first", "unicode/utf8.acceptRanges"], apart := false, laid := [("unicode/utf8.acceptRanges", laid_unicode_utf8_acceptRanges), ("unicode/utf8.first", laid_unicode_utf8_first)], narrowed := true }
def SocketPeersUptoSaid : Prop := socketPeersUptoRow.holds Tryd.pinned (OpenSpec.upto socketPeersSpec)

/-- 'turnpikelaw22.SocketTwo', WHERE WHAT IT READS IS OF BULK AT MOST 1048576: true; the input reads as it did. -/
def socketTwoUptoRow : OpenClaim := { program := "ytmgfpjfamdbhbaadoor", sum := "9dd4318c01d122d7b1d809a4d77967720a52e6648409be50ab5dae4ac86c9f48", func := "turnpike/turnpikelaw22.SocketTwo", spec := "socketTwo", inPlace := ["internal/abi.NoEscape"], named := ["unicode/utf8.first", "unicode/utf8.acceptRanges"], apart := false, laid := [("unicode/utf8.acceptRanges", laid_unicode_utf8_acceptRanges), ("unicode/utf8.first", laid_unicode_utf8_first)], narrowed := true }
def SocketTwoUptoSaid : Prop := socketTwoUptoRow.holds Tryd.pinned (OpenSpec.upto socketTwoSpec)

/-- 'turnpikelaw22.SocketBack', WHERE WHAT IT READS IS OF BULK AT MOST 1048576: true; the input reads as it did. -/
def socketBackUptoRow : OpenClaim := { program := "ytmgfpjfamdbhbaadoor", sum := "9dd4318c01d122d7b1d809a4d77967720a52e6648409be50ab5dae4ac86c9f48", func := "turnpike/turnpikelaw22.SocketBack", spec := "socketBack", inPlace := ["internal/abi.NoEscape"], named := ["unicode/utf8.first", "unicode/utf8.acceptRanges"], apart := false, laid := [("unicode/utf8.acceptRanges", laid_unicode_utf8_acceptRanges), ("unicode/utf8.first", laid_unicode_utf8_first)], narrowed := true }
def SocketBackUptoSaid : Prop := socketBackUptoRow.holds Tryd.pinned (OpenSpec.upto socketBackSpec)

/-- 'turnpikelaw22.SocketEchoes', WHERE WHAT IT READS IS OF BULK AT MOST 1048576: true; the input reads as it did. -/
def socketEchoesUptoRow : OpenClaim := { program := "ytmgfpjfamdbhbaadoor", sum := "9dd4318c01d122d7b1d809a4d77967720a52e6648409be50ab5dae4ac86c9f48", func := "turnpike/turnpikelaw22.SocketEchoes", spec := "socketEchoes", inPlace := ["internal/abi.NoEscape"], named := ["unicode/utf8.first", "unicode/utf8.acceptRanges"], apart := false, laid := [("unicode/utf8.acceptRanges", laid_unicode_utf8_acceptRanges), ("unicode/utf8.first", laid_unicode_utf8_first)], narrowed := true }
def SocketEchoesUptoSaid : Prop := socketEchoesUptoRow.holds Tryd.pinned (OpenSpec.upto socketEchoesSpec)

/-- 'turnpikelaw22.SocketRow', WHERE WHAT IT READS IS OF BULK AT MOST 1048576: true; the input reads as it did. -/
def socketRowUptoRow : OpenClaim := { program := "ytmgfpjfamdbhbaadoor", sum := "9dd4318c01d122d7b1d809a4d77967720a52e6648409be50ab5dae4ac86c9f48", func := "turnpike/turnpikelaw22.SocketRow", spec := "socketRow", inPlace := ["internal/abi.NoEscape"], named := ["unicode/utf8.first", "unicode/utf8.acceptRanges"], apart := false, laid := [("unicode/utf8.acceptRanges", laid_unicode_utf8_acceptRanges), ("unicode/utf8.first", laid_unicode_utf8_first)], narrowed := true }
def SocketRowUptoSaid : Prop := socketRowUptoRow.holds Tryd.pinned (OpenSpec.upto socketRowSpec)

end Rows
end Go.Proofs.YtmgfpjfamdbhbaaDoor
