/-
  DERIVED. GIVEN WITH THE SEED: THE CARDS: each row of YtdeaefbjddodjaaGreatDoorRows.lean that lists a variable, with what it lists TIED to the program's text (the seventh form; the later family's looks); each row that meets fmt, with fmt's text TOLD by the authors' own Lean function (tested against real Go, not proved from fmt's source: count such statements apart). THE CARD IS WHAT COUNTS. Prove the row's statement (the work); the ties are given (YtdeaefbjddodjaaGreatDoorTie.lean); close each card by the builder's one call (the guide's Derived/Test/ToyasCard.lean, 'card_holds'). Laid BY PROGRAM, IN A SANDBOX (cutbox-door.mjs). By AI agents, Wed Nov 11 2026. No macro, syntax, notation, axiom, sorry.
-/
import Derived.Test.YtdeaefbjddodjaaGreatDoorRows
import GoSem.ClaimSeven
namespace Go.Proofs.YtdeaefbjddodjaaGreatDoor
namespace Rows

/-- THE TIED CARD OF 'chroniclelaw7.ManifestRound'. -/
def manifestRoundCard : Claim7 := { stood := { row := manifestRoundRow, standIns := [], harness := (true, "6b34115dd2df1f6717477e8c02e848ea3dbb626a6eae4c77fb25a0fddd120307"), looks := true }, kinds := [], alts := [], laidByText := true, laidKinds := [.data, .data, .data, .data, .sentinel, .sentinel, .pinned], laidTests := true, laidLooks := .later }
def ManifestRoundCardSaid : Prop := Claim7.holds Tryz.pinned (.plain (OpenSpec.ofChange manifestRoundSpec)) manifestRoundCard

/-- THE SECOND FORM's CARD OF 'chroniclelaw7.ManifestRound'. -/
def manifestRoundUptoCard : Claim7 := { stood := { row := manifestRoundUptoRow, standIns := [], harness := (true, "6b34115dd2df1f6717477e8c02e848ea3dbb626a6eae4c77fb25a0fddd120307"), looks := true }, kinds := [], alts := [], laidByText := true, laidKinds := [.data, .data, .data, .data, .sentinel, .sentinel, .pinned], laidTests := true, laidLooks := .later }
def ManifestRoundUptoCardSaid : Prop := Claim7.holds Tryz.pinned (.plain (OpenSpec.upto manifestRoundSpec)) manifestRoundUptoCard
end Rows
end Go.Proofs.YtdeaefbjddodjaaGreatDoor
