/-
  DERIVED. GIVEN WITH THE SEED: THE CARDS: each row of YtifimeohdgnehaaDoorRows.lean that lists a variable, with what it lists TIED to the program's text (the seventh form; the later family's looks); each row that meets fmt, with fmt's text TOLD by the authors' own Lean function (tested against real Go, not proved from fmt's source: count such statements apart). THE CARD IS WHAT COUNTS. Prove the row's statement (the work); the ties are given (YtifimeohdgnehaaDoorTie.lean); close each card by the builder's one call (the guide's Derived/Test/ToyasCard.lean, 'card_holds'). Laid BY PROGRAM, IN A SANDBOX (cutbox-door.mjs). By AI agents, Wed Nov 11 2026. No macro, syntax, notation, axiom, sorry.
-/
import Derived.Test.YtifimeohdgnehaaDoorRows
import GoSem.ClaimSeven
namespace Go.Proofs.YtifimeohdgnehaaDoor
namespace Rows

/-- THE TIED CARD OF 'chroniclelaw5.SegmentNames'. -/
def segmentNamesCard : Claim7 := { stood := { row := segmentNamesRow, standIns := [], harness := (true, "3dd4b4250135376052f1bbc1c1efd1a63e9907d913eba3f953f0ccd874beb52f"), looks := false }, kinds := [], alts := [], laidByText := true, laidKinds := [.data, .data, .data], laidTests := true, laidLooks := .later }
def SegmentNamesCardSaid : Prop := Claim7.holds Tryd.pinned (.plain (OpenSpec.ofChange segmentNamesSpec)) segmentNamesCard

/-- THE TIED CARD OF 'chroniclelaw6.HintNames'. -/
def hintNamesCard : Claim7 := { stood := { row := hintNamesRow, standIns := [], harness := (true, "3dd4b4250135376052f1bbc1c1efd1a63e9907d913eba3f953f0ccd874beb52f"), looks := false }, kinds := [], alts := [], laidByText := true, laidKinds := [.data, .data, .data], laidTests := true, laidLooks := .later }
def HintNamesCardSaid : Prop := Claim7.holds Tryd.pinned (.plain (OpenSpec.ofChange hintNamesSpec)) hintNamesCard

/-- THE SECOND FORM's CARD OF 'chroniclelaw5.SegmentNames'. -/
def segmentNamesUptoCard : Claim7 := { stood := { row := segmentNamesUptoRow, standIns := [], harness := (true, "3dd4b4250135376052f1bbc1c1efd1a63e9907d913eba3f953f0ccd874beb52f"), looks := false }, kinds := [], alts := [], laidByText := true, laidKinds := [.data, .data, .data], laidTests := true, laidLooks := .later }
def SegmentNamesUptoCardSaid : Prop := Claim7.holds Tryd.pinned (.plain (OpenSpec.upto segmentNamesSpec)) segmentNamesUptoCard

/-- THE SECOND FORM's CARD OF 'chroniclelaw6.HintNames'. -/
def hintNamesUptoCard : Claim7 := { stood := { row := hintNamesUptoRow, standIns := [], harness := (true, "3dd4b4250135376052f1bbc1c1efd1a63e9907d913eba3f953f0ccd874beb52f"), looks := false }, kinds := [], alts := [], laidByText := true, laidKinds := [.data, .data, .data], laidTests := true, laidLooks := .later }
def HintNamesUptoCardSaid : Prop := Claim7.holds Tryd.pinned (.plain (OpenSpec.upto hintNamesSpec)) hintNamesUptoCard
end Rows
end Go.Proofs.YtifimeohdgnehaaDoor
