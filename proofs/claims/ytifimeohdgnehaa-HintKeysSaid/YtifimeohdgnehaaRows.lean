/-
  No cell of these rows narrows 'for every input' (looked for: loops, veiled, ifaces, maps, wideKeys, modest, calm, conditions, laid).
  DERIVED. THE GIVEN ROWS OF THIS SEAT. 4 by the template 'for every input the law returns true; each argument reads behind the call as it read before'; 0 by the template 'total and deterministic' (their statements: YtifimeohdgnehaaTotals.lean).
  GIVEN WITH THE SEED: the statements are not yours to turn. If you find one false, say at which input.
  Laid BY PROGRAM, IN A SANDBOX (cutbox-rows.mjs): the forced cells as the released guide's own fill.sh prints them over the translation d05076e9ea0ecbc1… (all of the seat's roots in one cut). By AI agents, Wed Nov 11 2026. No macro, syntax, notation, axiom, sorry.
-/
import Derived.Test.YtifimeohdgnehaaChecked
import GoSem.Claim
import GoSem.ClaimJoined
import GoSem.ClaimMapViews
import Derived.JoinedTies
import Derived.KernelRfl
namespace Go.Proofs.Ytifimeohdgnehaa
/- THE CELL 'sum', in the pinned program and in every row, IS THE sha256 OF THE DUMP (.gsa) THAT YtifimeohdgnehaaProg.lean LOADS. Nothing in Lean hashes anything: it is a label: what it is worth is what the hold of that sum in a sandbox is worth. -/
noncomputable def Try.pinned : Pinned := { name := "ytifimeohdgnehaa", sum := "d05076e9ea0ecbc1e292fc16c02872fa64fe3844f4d33d7803c8e8be854b7c6f", checked := Try.checked }
namespace Rows
def none {H : Type} : Left H := { results := [], args := [] }

/-- 'chroniclelaw6.HintEncodes': WHATEVER THE INPUT: true; the input reads as it did. -/
def hintEncodesSpec : ChangeSpec := { name := "hintEncodes", fn := fun _ => fun
  | [d] => { results := [.lit (.bool true)], args := [d] }
  | _ => none }
def hintEncodesRow : OpenClaim := { program := "ytifimeohdgnehaa", sum := "d05076e9ea0ecbc1e292fc16c02872fa64fe3844f4d33d7803c8e8be854b7c6f", func := "chronicle/chroniclelaw6.HintEncodes", spec := "hintEncodes", apart := false }
def HintEncodesSaid : Prop := hintEncodesRow.holds Try.pinned (OpenSpec.ofChange hintEncodesSpec)

/-- ITS FALSE NEIGHBOUR: 'it returns false'. Refute it at one input. -/
def hintEncodesWrong : ChangeSpec := { name := "hintEncodes", fn := fun _ => fun
  | [d] => { results := [.lit (.bool false)], args := [d] }
  | _ => none }
def HintEncodesWrongFalsely : Prop := hintEncodesRow.holds Try.pinned (OpenSpec.ofChange hintEncodesWrong)

/-- 'chroniclelaw6.HintDecodes': WHATEVER THE INPUT: true; the input reads as it did. -/
def hintDecodesSpec : ChangeSpec := { name := "hintDecodes", fn := fun _ => fun
  | [d] => { results := [.lit (.bool true)], args := [d] }
  | _ => none }
def hintDecodesRow : OpenClaim := { program := "ytifimeohdgnehaa", sum := "d05076e9ea0ecbc1e292fc16c02872fa64fe3844f4d33d7803c8e8be854b7c6f", func := "chronicle/chroniclelaw6.HintDecodes", spec := "hintDecodes", apart := false }
def HintDecodesSaid : Prop := hintDecodesRow.holds Try.pinned (OpenSpec.ofChange hintDecodesSpec)

/-- ITS FALSE NEIGHBOUR: 'it returns false'. Refute it at one input. -/
def hintDecodesWrong : ChangeSpec := { name := "hintDecodes", fn := fun _ => fun
  | [d] => { results := [.lit (.bool false)], args := [d] }
  | _ => none }
def HintDecodesWrongFalsely : Prop := hintDecodesRow.holds Try.pinned (OpenSpec.ofChange hintDecodesWrong)

/-- 'chroniclelaw6.HintOf': WHATEVER THE INPUT: true; the input reads as it did. -/
def hintOfSpec : ChangeSpec := { name := "hintOf", fn := fun _ => fun
  | [d1, d2, d3] => { results := [.lit (.bool true)], args := [d1, d2, d3] }
  | _ => none }
def hintOfRow : OpenClaim := { program := "ytifimeohdgnehaa", sum := "d05076e9ea0ecbc1e292fc16c02872fa64fe3844f4d33d7803c8e8be854b7c6f", func := "chronicle/chroniclelaw6.HintOf", spec := "hintOf", recurses := true, apart := false }
def HintOfSaid : Prop := hintOfRow.holds Try.pinned (OpenSpec.ofChange hintOfSpec)

/-- ITS FALSE NEIGHBOUR: 'it returns false'. Refute it at one input. -/
def hintOfWrong : ChangeSpec := { name := "hintOf", fn := fun _ => fun
  | [d1, d2, d3] => { results := [.lit (.bool false)], args := [d1, d2, d3] }
  | _ => none }
def HintOfWrongFalsely : Prop := hintOfRow.holds Try.pinned (OpenSpec.ofChange hintOfWrong)

/-- 'chroniclelaw6.HintKeys': WHATEVER THE INPUT: true; the input reads as it did. -/
def hintKeysSpec : ChangeSpec := { name := "hintKeys", fn := fun _ => fun
  | [d1, d2, d3] => { results := [.lit (.bool true)], args := [d1, d2, d3] }
  | _ => none }
def hintKeysRow : OpenClaim := { program := "ytifimeohdgnehaa", sum := "d05076e9ea0ecbc1e292fc16c02872fa64fe3844f4d33d7803c8e8be854b7c6f", func := "chronicle/chroniclelaw6.HintKeys", spec := "hintKeys", recurses := true, apart := false }
def HintKeysSaid : Prop := hintKeysRow.holds Try.pinned (OpenSpec.ofChange hintKeysSpec)

/-- ITS FALSE NEIGHBOUR: 'it returns false'. Refute it at one input. -/
def hintKeysWrong : ChangeSpec := { name := "hintKeys", fn := fun _ => fun
  | [d1, d2, d3] => { results := [.lit (.bool false)], args := [d1, d2, d3] }
  | _ => none }
def HintKeysWrongFalsely : Prop := hintKeysRow.holds Try.pinned (OpenSpec.ofChange hintKeysWrong)

/- THE SECOND FORM. 'bulk': how many values and letters a reading holds, each counted each time it is reached (what is shared counts as often as it is met; a slice's spare places count too). A statement '..UptoSaid' is the law's where the arguments, and the package variables that the reading takes, are together of bulk at most 1048576: NARROWER than '..Said'. Prove '..Said' where nothing that the law and all that it calls make is longer than what came in: it says more and counts as full. Else prove '..UptoSaid'. A law counts once. -/
mutual
def uptoBulk {H : Type} : DataW H → Nat
  | .lit (.string bytes) => bytes.length + 1
  | .lit _ => 1
  | .nil => 1
  | .ptr d => uptoBulk d + 1
  | .slice elems spare => uptoBulkAll elems + uptoBulkAll spare + 1
  | .agg parts => uptoBulkAll parts + 1
  | .iface _ d => uptoBulk d + 1
  | .map entries => uptoBulkEntries entries + 1
  | .held _ => 1
def uptoBulkAll {H : Type} : List (DataW H) → Nat
  | [] => 0
  | d :: r => uptoBulk d + uptoBulkAll r
def uptoBulkEntries {H : Type} : List (Lit × DataW H) → Nat
  | [] => 0
  | x :: r => uptoBulkEntry x + uptoBulkEntries r
def uptoBulkEntry {H : Type} : Lit × DataW H → Nat
  | (.string bytes, d) => bytes.length + uptoBulk d + 1
  | (_, d) => uptoBulk d + 1
 end
def uptoSmall : (H : Type) → List (DataW H) → Bool := fun _ ds => decide (uptoBulkAll ds ≤ 1048576)
def OpenSpec.upto (s : _root_.Go.ChangeSpec) : _root_.Go.OpenSpec := { _root_.Go.OpenSpec.ofChange s with cond := some uptoSmall }

/-- 'chroniclelaw6.HintEncodes', WHERE WHAT IT READS IS OF BULK AT MOST 1048576: true; the input reads as it did. -/
def hintEncodesUptoRow : OpenClaim := { program := "ytifimeohdgnehaa", sum := "d05076e9ea0ecbc1e292fc16c02872fa64fe3844f4d33d7803c8e8be854b7c6f", func := "chronicle/chroniclelaw6.HintEncodes", spec := "hintEncodes", apart := false, narrowed := true }
def HintEncodesUptoSaid : Prop := hintEncodesUptoRow.holds Try.pinned (OpenSpec.upto hintEncodesSpec)

/-- 'chroniclelaw6.HintDecodes', WHERE WHAT IT READS IS OF BULK AT MOST 1048576: true; the input reads as it did. -/
def hintDecodesUptoRow : OpenClaim := { program := "ytifimeohdgnehaa", sum := "d05076e9ea0ecbc1e292fc16c02872fa64fe3844f4d33d7803c8e8be854b7c6f", func := "chronicle/chroniclelaw6.HintDecodes", spec := "hintDecodes", apart := false, narrowed := true }
def HintDecodesUptoSaid : Prop := hintDecodesUptoRow.holds Try.pinned (OpenSpec.upto hintDecodesSpec)

/-- 'chroniclelaw6.HintOf', WHERE WHAT IT READS IS OF BULK AT MOST 1048576: true; the input reads as it did. -/
def hintOfUptoRow : OpenClaim := { program := "ytifimeohdgnehaa", sum := "d05076e9ea0ecbc1e292fc16c02872fa64fe3844f4d33d7803c8e8be854b7c6f", func := "chronicle/chroniclelaw6.HintOf", spec := "hintOf", recurses := true, apart := false, narrowed := true }
def HintOfUptoSaid : Prop := hintOfUptoRow.holds Try.pinned (OpenSpec.upto hintOfSpec)

/-- 'chroniclelaw6.HintKeys', WHERE WHAT IT READS IS OF BULK AT MOST 1048576: true; the input reads as it did. -/
def hintKeysUptoRow : OpenClaim := { program := "ytifimeohdgnehaa", sum := "d05076e9ea0ecbc1e292fc16c02872fa64fe3844f4d33d7803c8e8be854b7c6f", func := "chronicle/chroniclelaw6.HintKeys", spec := "hintKeys", recurses := true, apart := false, narrowed := true }
def HintKeysUptoSaid : Prop := hintKeysUptoRow.holds Try.pinned (OpenSpec.upto hintKeysSpec)

end Rows
end Go.Proofs.Ytifimeohdgnehaa
