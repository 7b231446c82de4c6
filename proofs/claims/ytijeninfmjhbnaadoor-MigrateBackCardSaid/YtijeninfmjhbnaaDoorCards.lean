/-
  DERIVED. GIVEN WITH THE SEED: THE CARDS: each row of YtijeninfmjhbnaaDoorRows.lean that lists a variable, with what it lists TIED to the program's text (the seventh form; the later family's looks); each row that meets fmt, with fmt's text TOLD by the authors' own Lean function (tested against real Go, not proved from fmt's source: count such statements apart). THE CARD IS WHAT COUNTS. Prove the row's statement (the work); the ties are given (YtijeninfmjhbnaaDoorTie.lean); close each card by the builder's one call (the guide's Derived/Test/ToyasCard.lean, 'card_holds'). Laid BY PROGRAM, IN A SANDBOX (cutbox-door.mjs). By AI agents, Wed Nov 11 2026. No macro, syntax, notation, axiom, sorry.
-/
import Derived.Test.YtijeninfmjhbnaaDoorRows
import GoSem.ClaimSeven
namespace Go.Proofs.YtijeninfmjhbnaaDoor
namespace Rows

/-- THE TIED CARD OF 'tourlaw3.SystemChecks'. -/
def systemChecksCard : Claim7 := { stood := { row := systemChecksRow, standIns := [], harness := (true, "13c5717210f21be4e85cbbf1e9d7da6941e64c8f6a05f0b5c9a26ff8ec6de69e"), looks := false }, kinds := [], alts := [], laidByText := true, laidKinds := [.data, .pinned], laidTests := true, laidLooks := .later }
def SystemChecksCardSaid : Prop := Claim7.holds Tryd.pinned (.plain (OpenSpec.ofChange systemChecksSpec)) systemChecksCard

/-- THE TIED CARD OF 'tourlaw3.MigrateBack'. -/
def migrateBackCard : Claim7 := { stood := { row := migrateBackRow, standIns := [], harness := (true, "13c5717210f21be4e85cbbf1e9d7da6941e64c8f6a05f0b5c9a26ff8ec6de69e"), looks := false }, kinds := [], alts := [], laidByText := true, laidKinds := [.data, .pinned], laidTests := true, laidLooks := .later }
def MigrateBackCardSaid : Prop := Claim7.holds Tryd.pinned (.plain (OpenSpec.ofChange migrateBackSpec)) migrateBackCard

/-- THE SECOND FORM's CARD OF 'tourlaw3.SystemChecks'. -/
def systemChecksUptoCard : Claim7 := { stood := { row := systemChecksUptoRow, standIns := [], harness := (true, "13c5717210f21be4e85cbbf1e9d7da6941e64c8f6a05f0b5c9a26ff8ec6de69e"), looks := false }, kinds := [], alts := [], laidByText := true, laidKinds := [.data, .pinned], laidTests := true, laidLooks := .later }
def SystemChecksUptoCardSaid : Prop := Claim7.holds Tryd.pinned (.plain (OpenSpec.upto systemChecksSpec)) systemChecksUptoCard

/-- THE SECOND FORM's CARD OF 'tourlaw3.MigrateBack'. -/
def migrateBackUptoCard : Claim7 := { stood := { row := migrateBackUptoRow, standIns := [], harness := (true, "13c5717210f21be4e85cbbf1e9d7da6941e64c8f6a05f0b5c9a26ff8ec6de69e"), looks := false }, kinds := [], alts := [], laidByText := true, laidKinds := [.data, .pinned], laidTests := true, laidLooks := .later }
def MigrateBackUptoCardSaid : Prop := Claim7.holds Tryd.pinned (.plain (OpenSpec.upto migrateBackSpec)) migrateBackUptoCard
end Rows
end Go.Proofs.YtijeninfmjhbnaaDoor
