/-
  DERIVED. GIVEN WITH THE SEED: THE CARDS: each row of YtbmbgkgjlnookaaDoorRows.lean that lists a variable, with what it lists TIED to the program's text (the seventh form; the later family's looks); each row that meets fmt, with fmt's text TOLD by the authors' own Lean function (tested against real Go, not proved from fmt's source: count such statements apart). THE CARD IS WHAT COUNTS. Prove the row's statement (the work); the ties are given (YtbmbgkgjlnookaaDoorTie.lean); close each card by the builder's one call (the guide's Derived/Test/ToyasCard.lean, 'card_holds'). Laid BY PROGRAM, IN A SANDBOX (cutbox-door.mjs). By AI agents, Wed Nov 11 2026. No macro, syntax, notation, axiom, sorry.
-/
import Derived.Test.YtbmbgkgjlnookaaDoorRows
import GoSem.ClaimSeven
namespace Go.Proofs.YtbmbgkgjlnookaaDoor
namespace Rows

/-- THE TIED CARD OF 'chroniclelaw7.ManifestNames'. -/
def manifestNamesCard : Claim7 := { stood := { row := manifestNamesRow, standIns := [], harness := (true, "8c03aeb892e6f7d6a80d55b8b249c17ca93225e85d9297423cffc1c1ce5ac2f1"), looks := true }, kinds := [], alts := [], laidByText := true, laidKinds := [.data, .data, .data, .data, .sentinel, .sentinel, .pinned], laidTests := true, laidLooks := .later }
def ManifestNamesCardSaid : Prop := Claim7.holds Tryd.pinned (.plain (OpenSpec.ofChange manifestNamesSpec)) manifestNamesCard

/-- THE TIED CARD OF 'chroniclelaw7.ManifestOrphans'. -/
def manifestOrphansCard : Claim7 := { stood := { row := manifestOrphansRow, standIns := [], harness := (true, "8c03aeb892e6f7d6a80d55b8b249c17ca93225e85d9297423cffc1c1ce5ac2f1"), looks := true }, kinds := [], alts := [], laidByText := true, laidKinds := [.data, .data, .data, .data, .sentinel, .sentinel, .pinned], laidTests := true, laidLooks := .later }
def ManifestOrphansCardSaid : Prop := Claim7.holds Tryd.pinned (.plain (OpenSpec.ofChange manifestOrphansSpec)) manifestOrphansCard

/-- THE SECOND FORM's CARD OF 'chroniclelaw7.ManifestNames'. -/
def manifestNamesUptoCard : Claim7 := { stood := { row := manifestNamesUptoRow, standIns := [], harness := (true, "8c03aeb892e6f7d6a80d55b8b249c17ca93225e85d9297423cffc1c1ce5ac2f1"), looks := true }, kinds := [], alts := [], laidByText := true, laidKinds := [.data, .data, .data, .data, .sentinel, .sentinel, .pinned], laidTests := true, laidLooks := .later }
def ManifestNamesUptoCardSaid : Prop := Claim7.holds Tryd.pinned (.plain (OpenSpec.upto manifestNamesSpec)) manifestNamesUptoCard

/-- THE SECOND FORM's CARD OF 'chroniclelaw7.ManifestOrphans'. -/
def manifestOrphansUptoCard : Claim7 := { stood := { row := manifestOrphansUptoRow, standIns := [], harness := (true, "8c03aeb892e6f7d6a80d55b8b249c17ca93225e85d9297423cffc1c1ce5ac2f1"), looks := true }, kinds := [], alts := [], laidByText := true, laidKinds := [.data, .data, .data, .data, .sentinel, .sentinel, .pinned], laidTests := true, laidLooks := .later }
def ManifestOrphansUptoCardSaid : Prop := Claim7.holds Tryd.pinned (.plain (OpenSpec.upto manifestOrphansSpec)) manifestOrphansUptoCard
end Rows
end Go.Proofs.YtbmbgkgjlnookaaDoor
