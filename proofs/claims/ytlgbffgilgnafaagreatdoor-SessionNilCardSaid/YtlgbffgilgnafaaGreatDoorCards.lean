/-
  DERIVED. GIVEN WITH THE SEED: THE CARDS: each row of YtlgbffgilgnafaaGreatDoorRows.lean that lists a variable, with what it lists TIED to the program's text (the seventh form; the later family's looks); each row that meets fmt, with fmt's text TOLD by the authors' own Lean function (tested against real Go, not proved from fmt's source: count such statements apart). THE CARD IS WHAT COUNTS. Prove the row's statement (the work); the ties are given (YtlgbffgilgnafaaGreatDoorTie.lean); close each card by the builder's one call (the guide's Derived/Test/ToyasCard.lean, 'card_holds'). Laid BY PROGRAM, IN A SANDBOX (cutbox-door.mjs). By AI agents, Wed Nov 11 2026. No macro, syntax, notation, axiom, sorry.
-/
import Derived.Test.YtlgbffgilgnafaaGreatDoorRows
import GoSem.ClaimSeven
namespace Go.Proofs.YtlgbffgilgnafaaGreatDoor
namespace Rows

/-- THE TIED CARD OF 'chroniclelaw5.SegmentNone'. -/
def segmentNoneCard : Claim7 := { stood := { row := segmentNoneRow, standIns := [], harness := (true, "d0f69da39ba6ef5550fd05965b64ffe48432ce615f9bc91f87a6496d50b28f47"), looks := true }, kinds := [], alts := [], laidByText := true, laidKinds := [.data, .data, .data], laidTests := true, laidLooks := .later }
def SegmentNoneCardSaid : Prop := Claim7.holds Tryz.pinned (.plain (OpenSpec.ofChange segmentNoneSpec)) segmentNoneCard

/-- THE TIED CARD OF 'chroniclelaw18.SessionNil'. -/
def sessionNilCard : Claim7 := { stood := { row := sessionNilRow, standIns := [], harness := (true, "d0f69da39ba6ef5550fd05965b64ffe48432ce615f9bc91f87a6496d50b28f47"), looks := true }, kinds := [], alts := [], laidByText := true, laidKinds := [.data], laidTests := true, laidLooks := .later }
def SessionNilCardSaid : Prop := Claim7.holds Tryz.pinned (.plain (OpenSpec.ofChange sessionNilSpec)) sessionNilCard

/-- THE SECOND FORM's CARD OF 'chroniclelaw5.SegmentNone'. -/
def segmentNoneUptoCard : Claim7 := { stood := { row := segmentNoneUptoRow, standIns := [], harness := (true, "d0f69da39ba6ef5550fd05965b64ffe48432ce615f9bc91f87a6496d50b28f47"), looks := true }, kinds := [], alts := [], laidByText := true, laidKinds := [.data, .data, .data], laidTests := true, laidLooks := .later }
def SegmentNoneUptoCardSaid : Prop := Claim7.holds Tryz.pinned (.plain (OpenSpec.upto segmentNoneSpec)) segmentNoneUptoCard

/-- THE SECOND FORM's CARD OF 'chroniclelaw18.SessionNil'. -/
def sessionNilUptoCard : Claim7 := { stood := { row := sessionNilUptoRow, standIns := [], harness := (true, "d0f69da39ba6ef5550fd05965b64ffe48432ce615f9bc91f87a6496d50b28f47"), looks := true }, kinds := [], alts := [], laidByText := true, laidKinds := [.data], laidTests := true, laidLooks := .later }
def SessionNilUptoCardSaid : Prop := Claim7.holds Tryz.pinned (.plain (OpenSpec.upto sessionNilSpec)) sessionNilUptoCard
end Rows
end Go.Proofs.YtlgbffgilgnafaaGreatDoor
