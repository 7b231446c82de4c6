/-
  DERIVED. GIVEN WITH THE SEED: THE CARDS: each row of YtioboeiadebbcaaDoorRows.lean that lists a variable, with what it lists TIED to the program's text (the seventh form; the later family's looks); each row that meets fmt, with fmt's text TOLD by the authors' own Lean function (tested against real Go, not proved from fmt's source: count such statements apart). THE CARD IS WHAT COUNTS. Prove the row's statement (the work); the ties are given (YtioboeiadebbcaaDoorTie.lean); close each card by the builder's one call (the guide's Derived/Test/ToyasCard.lean, 'card_holds'). Laid BY PROGRAM, IN A SANDBOX (cutbox-door.mjs). By AI agents, Wed Nov 11 2026. No macro, syntax, notation, axiom, sorry.
-/
import Derived.Test.YtioboeiadebbcaaDoorRows
import GoSem.ClaimSeven
namespace Go.Proofs.YtioboeiadebbcaaDoor
namespace Rows

/-- THE TIED CARD OF 'tourlaw3.KindRanges'. -/
def kindRangesCard : Claim7 := { stood := { row := kindRangesRow, standIns := [], harness := (true, "ac088a15ed1c3c58c4dd9289e651bf8e170c1b8a563cdfc6f53c1f141ded7479"), looks := true }, kinds := [], alts := [], laidByText := true, laidKinds := [.data, .pinned], laidTests := true, laidLooks := .later }
def KindRangesCardSaid : Prop := Claim7.holds Tryd.pinned (.plain (OpenSpec.ofChange kindRangesSpec)) kindRangesCard

/-- THE TIED CARD OF 'tourlaw1.FixTexts'. -/
def fixTextsCard : Claim7 := { stood := { row := fixTextsRow, standIns := [], harness := (true, "ac088a15ed1c3c58c4dd9289e651bf8e170c1b8a563cdfc6f53c1f141ded7479"), looks := true }, kinds := [], alts := [], laidByText := true, laidKinds := [.data, .data, .data, .data, .sentinel, .sentinel, .pinned], laidTests := true, laidLooks := .later }
def FixTextsCardSaid : Prop := Claim7.holds Tryd.pinned (.plain (OpenSpec.ofChange fixTextsSpec)) fixTextsCard

/-- THE SECOND FORM's CARD OF 'tourlaw3.KindRanges'. -/
def kindRangesUptoCard : Claim7 := { stood := { row := kindRangesUptoRow, standIns := [], harness := (true, "ac088a15ed1c3c58c4dd9289e651bf8e170c1b8a563cdfc6f53c1f141ded7479"), looks := true }, kinds := [], alts := [], laidByText := true, laidKinds := [.data, .pinned], laidTests := true, laidLooks := .later }
def KindRangesUptoCardSaid : Prop := Claim7.holds Tryd.pinned (.plain (OpenSpec.upto kindRangesSpec)) kindRangesUptoCard

/-- THE SECOND FORM's CARD OF 'tourlaw1.FixTexts'. -/
def fixTextsUptoCard : Claim7 := { stood := { row := fixTextsUptoRow, standIns := [], harness := (true, "ac088a15ed1c3c58c4dd9289e651bf8e170c1b8a563cdfc6f53c1f141ded7479"), looks := true }, kinds := [], alts := [], laidByText := true, laidKinds := [.data, .data, .data, .data, .sentinel, .sentinel, .pinned], laidTests := true, laidLooks := .later }
def FixTextsUptoCardSaid : Prop := Claim7.holds Tryd.pinned (.plain (OpenSpec.upto fixTextsSpec)) fixTextsUptoCard
end Rows
end Go.Proofs.YtioboeiadebbcaaDoor
