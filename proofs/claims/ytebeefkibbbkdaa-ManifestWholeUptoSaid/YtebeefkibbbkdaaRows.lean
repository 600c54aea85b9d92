/-
  No cell of these rows narrows 'for every input' (looked for: loops, veiled, ifaces, maps, wideKeys, modest, calm, conditions, laid).
  DERIVED. THE GIVEN ROWS OF THIS SEAT. 3 by the template 'for every input the law returns true; each argument reads behind the call as it read before'; 0 by the template 'total and deterministic' (their statements: YtebeefkibbbkdaaTotals.lean).
  GIVEN WITH THE SEED: the statements are not yours to turn. If you find one false, say at which input.
  Laid BY PROGRAM, IN A SANDBOX (cutbox-rows.mjs): the forced cells as the released guide's own fill.sh prints them over the translation ec0e5c4370d20a0d… (all of the seat's roots in one cut). By AI agents, Wed Nov 11 2026. No macro, syntax, notation, axiom, sorry.
-/
import Derived.Test.YtebeefkibbbkdaaChecked
import GoSem.Claim
import GoSem.ClaimJoined
import GoSem.ClaimMapViews
import Derived.JoinedTies
import Derived.KernelRfl
namespace Go.Proofs.Ytebeefkibbbkdaa
/- THE CELL 'sum', in the pinned program and in every row, IS THE sha256 OF THE DUMP (.gsa) THAT YtebeefkibbbkdaaProg.lean LOADS. Nothing in Lean hashes anything: it is a label: what it is worth is what the hold of that sum in a sandbox is worth. -/
noncomputable def Try.pinned : Pinned := { name := "ytebeefkibbbkdaa", sum := "ec0e5c4370d20a0ded667e9a1d87948eb066a4fc9c1117032de7932e27e51174", checked := Try.checked }
namespace Rows
def none {H : Type} : Left H := { results := [], args := [] }

/-- 'chroniclelaw7.ManifestWhole': WHATEVER THE INPUT: true; the input reads as it did. -/
def manifestWholeSpec : ChangeSpec := { name := "manifestWhole", fn := fun _ => fun
  | [d1, d2, d3, d4, d5, d6] => { results := [.lit (.bool true)], args := [d1, d2, d3, d4, d5, d6] }
  | _ => none }
def manifestWholeRow : OpenClaim := { program := "ytebeefkibbbkdaa", sum := "ec0e5c4370d20a0ded667e9a1d87948eb066a4fc9c1117032de7932e27e51174", func := "chronicle/chroniclelaw7.ManifestWhole", spec := "manifestWhole", unfollowed := true, recurses := true, apart := false }
def ManifestWholeSaid : Prop := manifestWholeRow.holds Try.pinned (OpenSpec.ofChange manifestWholeSpec)

/-- ITS FALSE NEIGHBOUR: 'it returns false'. Refute it at one input. -/
def manifestWholeWrong : ChangeSpec := { name := "manifestWhole", fn := fun _ => fun
  | [d1, d2, d3, d4, d5, d6] => { results := [.lit (.bool false)], args := [d1, d2, d3, d4, d5, d6] }
  | _ => none }
def ManifestWholeWrongFalsely : Prop := manifestWholeRow.holds Try.pinned (OpenSpec.ofChange manifestWholeWrong)

/-- 'chroniclelaw3.SimfsLoads': WHATEVER THE INPUT: true; the input reads as it did. -/
def simfsLoadsSpec : ChangeSpec := { name := "simfsLoads", fn := fun _ => fun
  | [d1, d2, d3] => { results := [.lit (.bool true)], args := [d1, d2, d3] }
  | _ => none }
def simfsLoadsRow : OpenClaim := { program := "ytebeefkibbbkdaa", sum := "ec0e5c4370d20a0ded667e9a1d87948eb066a4fc9c1117032de7932e27e51174", func := "chronicle/chroniclelaw3.SimfsLoads", spec := "simfsLoads", unfollowed := true, recurses := true, apart := false }
def SimfsLoadsSaid : Prop := simfsLoadsRow.holds Try.pinned (OpenSpec.ofChange simfsLoadsSpec)

/-- ITS FALSE NEIGHBOUR: 'it returns false'. Refute it at one input. -/
def simfsLoadsWrong : ChangeSpec := { name := "simfsLoads", fn := fun _ => fun
  | [d1, d2, d3] => { results := [.lit (.bool false)], args := [d1, d2, d3] }
  | _ => none }
def SimfsLoadsWrongFalsely : Prop := simfsLoadsRow.holds Try.pinned (OpenSpec.ofChange simfsLoadsWrong)

/-- 'chroniclelaw3.SimfsScripts': WHATEVER THE INPUT: true; the input reads as it did. -/
def simfsScriptsSpec : ChangeSpec := { name := "simfsScripts", fn := fun _ => fun
  | [d1, d2] => { results := [.lit (.bool true)], args := [d1, d2] }
  | _ => none }
def simfsScriptsRow : OpenClaim := { program := "ytebeefkibbbkdaa", sum := "ec0e5c4370d20a0ded667e9a1d87948eb066a4fc9c1117032de7932e27e51174", func := "chronicle/chroniclelaw3.SimfsScripts", spec := "simfsScripts", unfollowed := true, recurses := true, apart := false }
def SimfsScriptsSaid : Prop := simfsScriptsRow.holds Try.pinned (OpenSpec.ofChange simfsScriptsSpec)

/-- ITS FALSE NEIGHBOUR: 'it returns false'. Refute it at one input. -/
def simfsScriptsWrong : ChangeSpec := { name := "simfsScripts", fn := fun _ => fun
  | [d1, d2] => { results := [.lit (.bool false)], args := [d1, d2] }
  | _ => none }
def SimfsScriptsWrongFalsely : Prop := simfsScriptsRow.holds Try.pinned (OpenSpec.ofChange simfsScriptsWrong)

/- THE SECOND FORM. 'bulk': how many values and letters a reading holds, each counted each time it is reached (what is shared counts as often as it is met; a slice's spare places count too). A statement '..UptoSaid' is the law's where the arguments, and the package variables that the reading takes, are together of bulk at most 1048576: NARROWER than '..Said'. Prove '..Said' where nothing that the law and all that it calls make is longer than what came in: it says more and counts as full. Else prove '..UptoSaid'. A law counts once. -/
mutual
def uptoBulk {H : Type} : DataW H → Nat
  | .lit (.string bytes) => bytes.length + 1
  | .lit _ => 1
  | .nil => 1
  | .ptr d => uptoBulk d + 1
  | .slice elems spare => uptoBulkAll elems + uptoBulkAll spare + 1
  | .agg parts => uptoBulkAll parts + 1
  | .iface _ d => uptoBulk d + 1
  | .map entries => uptoBulkEntries entries + 1
  | .held _ => 1
def uptoBulkAll {H : Type} : List (DataW H) → Nat
  | [] => 0
  | d :: r => uptoBulk d + uptoBulkAll r
def uptoBulkEntries {H : Type} : List (Lit × DataW H) → Nat
  | [] => 0
  | x :: r => uptoBulkEntry x + uptoBulkEntries r
def uptoBulkEntry {H : Type} : Lit × DataW H → Nat
  | (.string bytes, d) => bytes.length + uptoBulk d + 1
  | (_, d) => uptoBulk d + 1
 end
def uptoSmall : (H : Type) → List (DataW H) → Bool := fun _ ds => decide (uptoBulkAll ds ≤ 1048576)
def OpenSpec.upto (s : _root_.Go.ChangeSpec) : _root_.Go.OpenSpec := { _root_.Go.OpenSpec.ofChange s with cond := some uptoSmall }

/-- 'chroniclelaw7.ManifestWhole', WHERE WHAT IT READS IS OF BULK AT MOST 1048576: true; the input reads as it did. -/
def manifestWholeUptoRow : OpenClaim := { program := "ytebeefkibbbkdaa", sum := "ec0e5c4370d20a0ded667e9a1d87948eb066a4fc9c1117032de7932e27e51174", func := "chronicle/chroniclelaw7.ManifestWhole", spec := "manifestWhole", unfollowed := true, recurses := true, apart := false, narrowed := true }
def ManifestWholeUptoSaid : Prop := manifestWholeUptoRow.holds Try.pinned (OpenSpec.upto manifestWholeSpec)

/-- 'chroniclelaw3.SimfsLoads', WHERE WHAT IT READS IS OF BULK AT MOST 1048576: true; the input reads as it did. -/
def simfsLoadsUptoRow : OpenClaim := { program := "ytebeefkibbbkdaa", sum := "ec0e5c4370d20a0ded667e9a1d87948eb066a4fc9c1117032de7932e27e51174", func := "chronicle/chroniclelaw3.SimfsLoads", spec := "simfsLoads", unfollowed := true, recurses := true, apart := false, narrowed := true }
def SimfsLoadsUptoSaid : Prop := simfsLoadsUptoRow.holds Try.pinned (OpenSpec.upto simfsLoadsSpec)

/-- 'chroniclelaw3.SimfsScripts', WHERE WHAT IT READS IS OF BULK AT MOST 1048576: true; the input reads as it did. -/
def simfsScriptsUptoRow : OpenClaim := { program := "ytebeefkibbbkdaa", sum := "ec0e5c4370d20a0ded667e9a1d87948eb066a4fc9c1117032de7932e27e51174", func := "chronicle/chroniclelaw3.SimfsScripts", spec := "simfsScripts", unfollowed := true, recurses := true, apart := false, narrowed := true }
def SimfsScriptsUptoSaid : Prop := simfsScriptsUptoRow.holds Try.pinned (OpenSpec.upto simfsScriptsSpec)

end Rows
end Go.Proofs.Ytebeefkibbbkdaa
