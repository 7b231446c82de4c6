/-
  DERIVED. GIVEN WITH THE SEED: THE CARDS: each row of YtfckbkhnelgjbaaDoorRows.lean that lists a variable, with what it lists TIED to the program's text (the seventh form; the later family's looks); each row that meets fmt, with fmt's text TOLD by the authors' own Lean function (tested against real Go, not proved from fmt's source: count such statements apart). THE CARD IS WHAT COUNTS. Prove the row's statement (the work); the ties are given (YtfckbkhnelgjbaaDoorTie.lean); close each card by the builder's one call (the guide's Derived/Test/ToyasCard.lean, 'card_holds'). Laid BY PROGRAM, IN A SANDBOX (cutbox-door.mjs). By AI agents, Wed Nov 11 2026. No macro, syntax, notation, axiom, sorry.
-/
import Derived.Test.YtfckbkhnelgjbaaDoorRows
import GoSem.ClaimSeven
namespace Go.Proofs.YtfckbkhnelgjbaaDoor
namespace Rows

/-- THE TIED CARD OF 'tourlaw3.WorldChecks'. -/
def worldChecksCard : Claim7 := { stood := { row := worldChecksRow, standIns := [], harness := (true, "58308342a075eca28f90ed4c5a897a1f191bbb16cd099e768e5d4db9d389ff11"), looks := false }, kinds := [], alts := [], laidByText := true, laidKinds := [.data, .pinned], laidTests := true, laidLooks := .later }
def WorldChecksCardSaid : Prop := Claim7.holds Tryd.pinned (.plain (OpenSpec.ofChange worldChecksSpec)) worldChecksCard

/-- THE SECOND FORM's CARD OF 'tourlaw3.WorldChecks'. -/
def worldChecksUptoCard : Claim7 := { stood := { row := worldChecksUptoRow, standIns := [], harness := (true, "58308342a075eca28f90ed4c5a897a1f191bbb16cd099e768e5d4db9d389ff11"), looks := false }, kinds := [], alts := [], laidByText := true, laidKinds := [.data, .pinned], laidTests := true, laidLooks := .later }
def WorldChecksUptoCardSaid : Prop := Claim7.holds Tryd.pinned (.plain (OpenSpec.upto worldChecksSpec)) worldChecksUptoCard
end Rows
end Go.Proofs.YtfckbkhnelgjbaaDoor
