/-
  No cell of these rows narrows 'for every input' (looked for: loops, veiled, ifaces, maps, wideKeys, modest, calm, conditions, laid).
  DERIVED. THE GIVEN ROWS OF THIS SEAT. 4 by the template 'for every input the law returns true; each argument reads behind the call as it read before'; 0 by the template 'total and deterministic' (their statements: YtjgdjfmgkmegfaaTotals.lean).
  GIVEN WITH THE SEED: the statements are not yours to turn. If you find one false, say at which input.
  Laid BY PROGRAM, IN A SANDBOX (cutbox-rows.mjs): the forced cells as the released guide's own fill.sh prints them over the translation 7762f0e52d384aba… (all of the seat's roots in one cut). By AI agents, Wed Nov 11 2026. No macro, syntax, notation, axiom, sorry.
-/
import Derived.Test.YtjgdjfmgkmegfaaChecked
import GoSem.Claim
import GoSem.ClaimJoined
import GoSem.ClaimMapViews
import Derived.JoinedTies
import Derived.KernelRfl
namespace Go.Proofs.Ytjgdjfmgkmegfaa
/- THE CELL 'sum', in the pinned program and in every row, IS THE sha256 OF THE DUMP (.gsa) THAT YtjgdjfmgkmegfaaProg.lean LOADS. Nothing in Lean hashes anything: it is a label: what it is worth is what the hold of that sum in a sandbox is worth. -/
noncomputable def Try.pinned : Pinned := { name := "ytjgdjfmgkmegfaa", sum := "7762f0e52d384aba80b2e6b2935d683e02fa4ba702658546dfe413a20d6c4012", checked := Try.checked }
namespace Rows
def none {H : Type} : Left H := { results := [], args := [] }

/-- 'chroniclelaw7.ManifestChecks': WHATEVER THE INPUT: true; the input reads as it did. -/
def manifestChecksSpec : ChangeSpec := { name := "manifestChecks", fn := fun _ => fun
  | [d1, d2, d3] => { results := [.lit (.bool true)], args := [d1, d2, d3] }
  | _ => none }
def manifestChecksRow : OpenClaim := { program := "ytjgdjfmgkmegfaa", sum := "7762f0e52d384aba80b2e6b2935d683e02fa4ba702658546dfe413a20d6c4012", func := "chronicle/chroniclelaw7.ManifestChecks", spec := "manifestChecks", apart := false }
def ManifestChecksSaid : Prop := manifestChecksRow.holds Try.pinned (OpenSpec.ofChange manifestChecksSpec)

/-- ITS FALSE NEIGHBOUR: 'it returns false'. Refute it at one input. -/
def manifestChecksWrong : ChangeSpec := { name := "manifestChecks", fn := fun _ => fun
  | [d1, d2, d3] => { results := [.lit (.bool false)], args := [d1, d2, d3] }
  | _ => none }
def ManifestChecksWrongFalsely : Prop := manifestChecksRow.holds Try.pinned (OpenSpec.ofChange manifestChecksWrong)

/-- 'chroniclelaw7.ManifestCodes': WHATEVER THE INPUT: true; the input reads as it did. -/
def manifestCodesSpec : ChangeSpec := { name := "manifestCodes", fn := fun _ => fun
  | [d1, d2] => { results := [.lit (.bool true)], args := [d1, d2] }
  | _ => none }
def manifestCodesRow : OpenClaim := { program := "ytjgdjfmgkmegfaa", sum := "7762f0e52d384aba80b2e6b2935d683e02fa4ba702658546dfe413a20d6c4012", func := "chronicle/chroniclelaw7.ManifestCodes", spec := "manifestCodes", apart := false }
def ManifestCodesSaid : Prop := manifestCodesRow.holds Try.pinned (OpenSpec.ofChange manifestCodesSpec)

/-- ITS FALSE NEIGHBOUR: 'it returns false'. Refute it at one input. -/
def manifestCodesWrong : ChangeSpec := { name := "manifestCodes", fn := fun _ => fun
  | [d1, d2] => { results := [.lit (.bool false)], args := [d1, d2] }
  | _ => none }
def ManifestCodesWrongFalsely : Prop := manifestCodesRow.holds Try.pinned (OpenSpec.ofChange manifestCodesWrong)

/-- 'chroniclelaw7.ManifestDamage': WHATEVER THE INPUT: true; the input reads as it did. -/
def manifestDamageSpec : ChangeSpec := { name := "manifestDamage", fn := fun _ => fun
  | [d1, d2, d3, d4, d5] => { results := [.lit (.bool true)], args := [d1, d2, d3, d4, d5] }
  | _ => none }
def manifestDamageRow : OpenClaim := { program := "ytjgdjfmgkmegfaa", sum := "7762f0e52d384aba80b2e6b2935d683e02fa4ba702658546dfe413a20d6c4012", func := "chronicle/chroniclelaw7.ManifestDamage", spec := "manifestDamage", apart := false }
def ManifestDamageSaid : Prop := manifestDamageRow.holds Try.pinned (OpenSpec.ofChange manifestDamageSpec)

/-- ITS FALSE NEIGHBOUR: 'it returns false'. Refute it at one input. -/
def manifestDamageWrong : ChangeSpec := { name := "manifestDamage", fn := fun _ => fun
  | [d1, d2, d3, d4, d5] => { results := [.lit (.bool false)], args := [d1, d2, d3, d4, d5] }
  | _ => none }
def ManifestDamageWrongFalsely : Prop := manifestDamageRow.holds Try.pinned (OpenSpec.ofChange manifestDamageWrong)

/-- 'chroniclelaw7.ManifestCatalogues': WHATEVER THE INPUT: true; the input reads as it did. -/
def manifestCataloguesSpec : ChangeSpec := { name := "manifestCatalogues", fn := fun _ => fun
  | [d1, d2] => { results := [.lit (.bool true)], args := [d1, d2] }
  | _ => none }
def manifestCataloguesRow : OpenClaim := { program := "ytjgdjfmgkmegfaa", sum := "7762f0e52d384aba80b2e6b2935d683e02fa4ba702658546dfe413a20d6c4012", func := "chronicle/chroniclelaw7.ManifestCatalogues", spec := "manifestCatalogues", apart := false }
def ManifestCataloguesSaid : Prop := manifestCataloguesRow.holds Try.pinned (OpenSpec.ofChange manifestCataloguesSpec)

/-- ITS FALSE NEIGHBOUR: 'it returns false'. Refute it at one input. -/
def manifestCataloguesWrong : ChangeSpec := { name := "manifestCatalogues", fn := fun _ => fun
  | [d1, d2] => { results := [.lit (.bool false)], args := [d1, d2] }
  | _ => none }
def ManifestCataloguesWrongFalsely : Prop := manifestCataloguesRow.holds Try.pinned (OpenSpec.ofChange manifestCataloguesWrong)

/- THE SECOND FORM. 'bulk': how many values and letters a reading holds, each counted each time it is reached (what is shared counts as often as it is met; a slice's spare places count too). A statement '..UptoSaid' is the law's where the arguments, and the package variables that the reading takes, are together of bulk at most 1048576: NARROWER than '..Said'. Prove '..Said' where nothing that the law and all that it calls make is longer than what came in: it says more and counts as full. Else prove '..UptoSaid'. A law counts once. -/
mutual
def uptoBulk {H : Type} : DataW H → Nat
  | .lit (.string bytes) => bytes.length + 1
  | .lit _ => 1
  | .nil => 1
  | .ptr d => uptoBulk d + 1
  | .slice elems spare => uptoBulkAll elems + uptoBulkAll spare + 1
  | .agg parts => uptoBulkAll parts + 1
  | .iface _ d => uptoBulk d + 1
  | .map entries => uptoBulkEntries entries + 1
  | .held _ => 1
def uptoBulkAll {H : Type} : List (DataW H) → Nat
  | [] => 0
  | d :: r => uptoBulk d + uptoBulkAll r
def uptoBulkEntries {H : Type} : List (Lit × DataW H) → Nat
  | [] => 0
  | x :: r => uptoBulkEntry x + uptoBulkEntries r
def uptoBulkEntry {H : Type} : Lit × DataW H → Nat
  | (.string bytes, d) => bytes.length + uptoBulk d + 1
  | (_, d) => uptoBulk d + 1
 end
def uptoSmall : (H : Type) → List (DataW H) → Bool := fun _ ds => decide (uptoBulkAll ds ≤ 1048576)
def OpenSpec.upto (s : _root_.Go.ChangeSpec) : _root_.Go.OpenSpec := { _root_.Go.OpenSpec.ofChange s with cond := some uptoSmall }

/-- 'chroniclelaw7.ManifestChecks', WHERE WHAT IT READS IS OF BULK AT MOST 1048576: true; the input reads as it did. -/
def manifestChecksUptoRow : OpenClaim := { program := "ytjgdjfmgkmegfaa", sum := "7762f0e52d384aba80b2e6b2935d683e02fa4ba702658546dfe413a20d6c4012", func := "chronicle/chroniclelaw7.ManifestChecks", spec := "manifestChecks", apart := false, narrowed := true }
def ManifestChecksUptoSaid : Prop := manifestChecksUptoRow.holds Try.pinned (OpenSpec.upto manifestChecksSpec)

/-- 'chroniclelaw7.ManifestCodes', WHERE WHAT IT READS IS OF BULK AT MOST 1048576: true; the input reads as it did. -/
def manifestCodesUptoRow : OpenClaim := { program := "ytjgdjfmgkmegfaa", sum := "7762f0e52d384aba80b2e6b2935d683e02fa4ba702658546dfe413a20d6c4012", func := "chronicle/chroniclelaw7.ManifestCodes", spec := "manifestCodes", apart := false, narrowed := true }
def ManifestCodesUptoSaid : Prop := manifestCodesUptoRow.holds Try.pinned (OpenSpec.upto manifestCodesSpec)

/-- 'chroniclelaw7.ManifestDamage', WHERE WHAT IT READS IS OF BULK AT MOST 1048576: true; the input reads as it did. -/
def manifestDamageUptoRow : OpenClaim := { program := "ytjgdjfmgkmegfaa", sum := "7762f0e52d384aba80b2e6b2935d683e02fa4ba702658546dfe413a20d6c4012", func := "chronicle/chroniclelaw7.ManifestDamage", spec := "manifestDamage", apart := false, narrowed := true }
def ManifestDamageUptoSaid : Prop := manifestDamageUptoRow.holds Try.pinned (OpenSpec.upto manifestDamageSpec)

/-- 'chroniclelaw7.ManifestCatalogues', WHERE WHAT IT READS IS OF BULK AT MOST 1048576: true; the input reads as it did. -/
def manifestCataloguesUptoRow : OpenClaim := { program := "ytjgdjfmgkmegfaa", sum := "7762f0e52d384aba80b2e6b2935d683e02fa4ba702658546dfe413a20d6c4012", func := "chronicle/chroniclelaw7.ManifestCatalogues", spec := "manifestCatalogues", apart := false, narrowed := true }
def ManifestCataloguesUptoSaid : Prop := manifestCataloguesUptoRow.holds Try.pinned (OpenSpec.upto manifestCataloguesSpec)

end Rows
end Go.Proofs.Ytjgdjfmgkmegfaa
