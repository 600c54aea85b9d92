/-
  No cell of these rows narrows 'for every input' (looked for: loops, veiled, ifaces, maps, wideKeys, modest, calm, conditions, laid).
  DERIVED. THE GIVEN ROWS OF THIS SEAT. 6 by the template 'for every input the law returns true; each argument reads behind the call as it read before'; 0 by the template 'total and deterministic' (their statements: YtomkieennkobcaaTotals.lean).
  GIVEN WITH THE SEED: the statements are not yours to turn. If you find one false, say at which input.
  Laid BY PROGRAM, IN A SANDBOX (cutbox-rows.mjs): the forced cells as the released guide's own fill.sh prints them over the translation 1f0e0c66497efc09… (all of the seat's roots in one cut). By AI agents, Wed Nov 11 2026. No macro, syntax, notation, axiom, sorry.
-/
import Derived.Test.YtomkieennkobcaaChecked
import GoSem.Claim
import GoSem.ClaimJoined
import GoSem.ClaimMapViews
import Derived.JoinedTies
import Derived.KernelRfl
namespace Go.Proofs.Ytomkieennkobcaa
/- THE CELL 'sum', in the pinned program and in every row, IS THE sha256 OF THE DUMP (.gsa) THAT YtomkieennkobcaaProg.lean LOADS. Nothing in Lean hashes anything: it is a label: what it is worth is what the hold of that sum in a sandbox is worth. -/
noncomputable def Try.pinned : Pinned := { name := "ytomkieennkobcaa", sum := "1f0e0c66497efc0975a9367b66a9d1cc27939201d0fda97357f8851081034c4f", checked := Try.checked }
namespace Rows
def none {H : Type} : Left H := { results := [], args := [] }

/-- 'chroniclelaw3.SimfsRename': WHATEVER THE INPUT: true; the input reads as it did. -/
def simfsRenameSpec : ChangeSpec := { name := "simfsRename", fn := fun _ => fun
  | [d1, d2, d3] => { results := [.lit (.bool true)], args := [d1, d2, d3] }
  | _ => none }
def simfsRenameRow : OpenClaim := { program := "ytomkieennkobcaa", sum := "1f0e0c66497efc0975a9367b66a9d1cc27939201d0fda97357f8851081034c4f", func := "chronicle/chroniclelaw3.SimfsRename", spec := "simfsRename", unfollowed := true, recurses := true, apart := false }
def SimfsRenameSaid : Prop := simfsRenameRow.holds Try.pinned (OpenSpec.ofChange simfsRenameSpec)

/-- ITS FALSE NEIGHBOUR: 'it returns false'. Refute it at one input. -/
def simfsRenameWrong : ChangeSpec := { name := "simfsRename", fn := fun _ => fun
  | [d1, d2, d3] => { results := [.lit (.bool false)], args := [d1, d2, d3] }
  | _ => none }
def SimfsRenameWrongFalsely : Prop := simfsRenameRow.holds Try.pinned (OpenSpec.ofChange simfsRenameWrong)

/-- 'chroniclelaw3.SimfsQuota': WHATEVER THE INPUT: true; the input reads as it did. -/
def simfsQuotaSpec : ChangeSpec := { name := "simfsQuota", fn := fun _ => fun
  | [d1, d2] => { results := [.lit (.bool true)], args := [d1, d2] }
  | _ => none }
def simfsQuotaRow : OpenClaim := { program := "ytomkieennkobcaa", sum := "1f0e0c66497efc0975a9367b66a9d1cc27939201d0fda97357f8851081034c4f", func := "chronicle/chroniclelaw3.SimfsQuota", spec := "simfsQuota", unfollowed := true, recurses := true, apart := false }
def SimfsQuotaSaid : Prop := simfsQuotaRow.holds Try.pinned (OpenSpec.ofChange simfsQuotaSpec)

/-- ITS FALSE NEIGHBOUR: 'it returns false'. Refute it at one input. -/
def simfsQuotaWrong : ChangeSpec := { name := "simfsQuota", fn := fun _ => fun
  | [d1, d2] => { results := [.lit (.bool false)], args := [d1, d2] }
  | _ => none }
def SimfsQuotaWrongFalsely : Prop := simfsQuotaRow.holds Try.pinned (OpenSpec.ofChange simfsQuotaWrong)

/-- 'chroniclelaw3.SimfsPast': WHATEVER THE INPUT: true; the input reads as it did. -/
def simfsPastSpec : ChangeSpec := { name := "simfsPast", fn := fun _ => fun
  | [d1, d2] => { results := [.lit (.bool true)], args := [d1, d2] }
  | _ => none }
def simfsPastRow : OpenClaim := { program := "ytomkieennkobcaa", sum := "1f0e0c66497efc0975a9367b66a9d1cc27939201d0fda97357f8851081034c4f", func := "chronicle/chroniclelaw3.SimfsPast", spec := "simfsPast", unfollowed := true, recurses := true, apart := false }
def SimfsPastSaid : Prop := simfsPastRow.holds Try.pinned (OpenSpec.ofChange simfsPastSpec)

/-- ITS FALSE NEIGHBOUR: 'it returns false'. Refute it at one input. -/
def simfsPastWrong : ChangeSpec := { name := "simfsPast", fn := fun _ => fun
  | [d1, d2] => { results := [.lit (.bool false)], args := [d1, d2] }
  | _ => none }
def SimfsPastWrongFalsely : Prop := simfsPastRow.holds Try.pinned (OpenSpec.ofChange simfsPastWrong)

/-- 'chroniclelaw3.SimfsApart': WHATEVER THE INPUT: true; the input reads as it did. -/
def simfsApartSpec : ChangeSpec := { name := "simfsApart", fn := fun _ => fun
  | [d1, d2, d3] => { results := [.lit (.bool true)], args := [d1, d2, d3] }
  | _ => none }
def simfsApartRow : OpenClaim := { program := "ytomkieennkobcaa", sum := "1f0e0c66497efc0975a9367b66a9d1cc27939201d0fda97357f8851081034c4f", func := "chronicle/chroniclelaw3.SimfsApart", spec := "simfsApart", unfollowed := true, recurses := true, apart := false }
def SimfsApartSaid : Prop := simfsApartRow.holds Try.pinned (OpenSpec.ofChange simfsApartSpec)

/-- ITS FALSE NEIGHBOUR: 'it returns false'. Refute it at one input. -/
def simfsApartWrong : ChangeSpec := { name := "simfsApart", fn := fun _ => fun
  | [d1, d2, d3] => { results := [.lit (.bool false)], args := [d1, d2, d3] }
  | _ => none }
def SimfsApartWrongFalsely : Prop := simfsApartRow.holds Try.pinned (OpenSpec.ofChange simfsApartWrong)

/-- 'chroniclelaw3.SimfsSettled': WHATEVER THE INPUT: true; the input reads as it did. -/
def simfsSettledSpec : ChangeSpec := { name := "simfsSettled", fn := fun _ => fun
  | [d1, d2, d3, d4] => { results := [.lit (.bool true)], args := [d1, d2, d3, d4] }
  | _ => none }
def simfsSettledRow : OpenClaim := { program := "ytomkieennkobcaa", sum := "1f0e0c66497efc0975a9367b66a9d1cc27939201d0fda97357f8851081034c4f", func := "chronicle/chroniclelaw3.SimfsSettled", spec := "simfsSettled", unfollowed := true, recurses := true, apart := false }
def SimfsSettledSaid : Prop := simfsSettledRow.holds Try.pinned (OpenSpec.ofChange simfsSettledSpec)

/-- ITS FALSE NEIGHBOUR: 'it returns false'. Refute it at one input. -/
def simfsSettledWrong : ChangeSpec := { name := "simfsSettled", fn := fun _ => fun
  | [d1, d2, d3, d4] => { results := [.lit (.bool false)], args := [d1, d2, d3, d4] }
  | _ => none }
def SimfsSettledWrongFalsely : Prop := simfsSettledRow.holds Try.pinned (OpenSpec.ofChange simfsSettledWrong)

/-- 'chroniclelaw3.SimfsFuse': WHATEVER THE INPUT: true; the input reads as it did. -/
def simfsFuseSpec : ChangeSpec := { name := "simfsFuse", fn := fun _ => fun
  | [d1, d2, d3, d4] => { results := [.lit (.bool true)], args := [d1, d2, d3, d4] }
  | _ => none }
def simfsFuseRow : OpenClaim := { program := "ytomkieennkobcaa", sum := "1f0e0c66497efc0975a9367b66a9d1cc27939201d0fda97357f8851081034c4f", func := "chronicle/chroniclelaw3.SimfsFuse", spec := "simfsFuse", unfollowed := true, recurses := true, apart := false }
def SimfsFuseSaid : Prop := simfsFuseRow.holds Try.pinned (OpenSpec.ofChange simfsFuseSpec)

/-- ITS FALSE NEIGHBOUR: 'it returns false'. Refute it at one input. -/
def simfsFuseWrong : ChangeSpec := { name := "simfsFuse", fn := fun _ => fun
  | [d1, d2, d3, d4] => { results := [.lit (.bool false)], args := [d1, d2, d3, d4] }
  | _ => none }
def SimfsFuseWrongFalsely : Prop := simfsFuseRow.holds Try.pinned (OpenSpec.ofChange simfsFuseWrong)

/- THE SECOND FORM. 'bulk': how many values and letters a reading holds, each counted each time it is reached (what is shared counts as often as it is met; a slice's spare places count too). A statement '..UptoSaid' is the law's where the arguments, and the package variables that the reading takes, are together of bulk at most 1048576: NARROWER than '..Said'. Prove '..Said' where nothing that the law and all that it calls make is longer than what came in: it says more and counts as full. Else prove '..UptoSaid'. A law counts once. -/
mutual
def uptoBulk {H : Type} : DataW H → Nat
  | .lit (.string bytes) => bytes.length + 1
  | .lit _ => 1
  | .nil => 1
  | .ptr d => uptoBulk d + 1
  | .slice elems spare => uptoBulkAll elems + uptoBulkAll spare + 1
  | .agg parts => uptoBulkAll parts + 1
  | .iface _ d => uptoBulk d + 1
  | .map entries => uptoBulkEntries entries + 1
  | .held _ => 1
def uptoBulkAll {H : Type} : List (DataW H) → Nat
  | [] => 0
  | d :: r => uptoBulk d + uptoBulkAll r
def uptoBulkEntries {H : Type} : List (Lit × DataW H) → Nat
  | [] => 0
  | x :: r => uptoBulkEntry x + uptoBulkEntries r
def uptoBulkEntry {H : Type} : Lit × DataW H → Nat
  | (.string bytes, d) => bytes.length + uptoBulk d + 1
  | (_, d) => uptoBulk d + 1
 end
def uptoSmall : (H : Type) → List (DataW H) → Bool := fun _ ds => decide (uptoBulkAll ds ≤ 1048576)
def OpenSpec.upto (s : _root_.Go.ChangeSpec) : _root_.Go.OpenSpec := { _root_.Go.OpenSpec.ofChange s with cond := some uptoSmall }

/-- 'chroniclelaw3.SimfsRename', WHERE WHAT IT READS IS OF BULK AT MOST 1048576: true; the input reads as it did. -/
def simfsRenameUptoRow : OpenClaim := { program := "ytomkieennkobcaa", sum := "1f0e0c66497efc0975a9367b66a9d1cc27939201d0fda97357f8851081034c4f", func := "chronicle/chroniclelaw3.SimfsRename", spec := "simfsRename", unfollowed := true, recurses := true, apart := false, narrowed := true }
def SimfsRenameUptoSaid : Prop := simfsRenameUptoRow.holds Try.pinned (OpenSpec.upto simfsRenameSpec)

/-- 'chroniclelaw3.SimfsQuota', WHERE WHAT IT READS IS OF BULK AT MOST 1048576: true; the input reads as it did. -/
def simfsQuotaUptoRow : OpenClaim := { program := "ytomkieennkobcaa", sum := "1f0e0c66497efc0975a9367b66a9d1cc27939201d0fda97357f8851081034c4f", func := "chronicle/chroniclelaw3.SimfsQuota", spec := "simfsQuota", unfollowed := true, recurses := true, apart := false, narrowed := true }
def SimfsQuotaUptoSaid : Prop := simfsQuotaUptoRow.holds Try.pinned (OpenSpec.upto simfsQuotaSpec)

/-- 'chroniclelaw3.SimfsPast', WHERE WHAT IT READS IS OF BULK AT MOST 1048576: true; the input reads as it did. -/
def simfsPastUptoRow : OpenClaim := { program := "ytomkieennkobcaa", sum := "1f0e0c66497efc0975a9367b66a9d1cc27939201d0fda97357f8851081034c4f", func := "chronicle/chroniclelaw3.SimfsPast", spec := "simfsPast", unfollowed := true, recurses := true, apart := false, narrowed := true }
def SimfsPastUptoSaid : Prop := simfsPastUptoRow.holds Try.pinned (OpenSpec.upto simfsPastSpec)

/-- 'chroniclelaw3.SimfsApart', WHERE WHAT IT READS IS OF BULK AT MOST 1048576: true; the input reads as it did. -/
def simfsApartUptoRow : OpenClaim := { program := "ytomkieennkobcaa", sum := "1f0e0c66497efc0975a9367b66a9d1cc27939201d0fda97357f8851081034c4f", func := "chronicle/chroniclelaw3.SimfsApart", spec := "simfsApart", unfollowed := true, recurses := true, apart := false, narrowed := true }
def SimfsApartUptoSaid : Prop := simfsApartUptoRow.holds Try.pinned (OpenSpec.upto simfsApartSpec)

/-- 'chroniclelaw3.SimfsSettled', WHERE WHAT IT READS IS OF BULK AT MOST 1048576: true; the input reads as it did. -/
def simfsSettledUptoRow : OpenClaim := { program := "ytomkieennkobcaa", sum := "1f0e0c66497efc0975a9367b66a9d1cc27939201d0fda97357f8851081034c4f", func := "chronicle/chroniclelaw3.SimfsSettled", spec := "simfsSettled", unfollowed := true, recurses := true, apart := false, narrowed := true }
def SimfsSettledUptoSaid : Prop := simfsSettledUptoRow.holds Try.pinned (OpenSpec.upto simfsSettledSpec)

/-- 'chroniclelaw3.SimfsFuse', WHERE WHAT IT READS IS OF BULK AT MOST 1048576: true; the input reads as it did. -/
def simfsFuseUptoRow : OpenClaim := { program := "ytomkieennkobcaa", sum := "1f0e0c66497efc0975a9367b66a9d1cc27939201d0fda97357f8851081034c4f", func := "chronicle/chroniclelaw3.SimfsFuse", spec := "simfsFuse", unfollowed := true, recurses := true, apart := false, narrowed := true }
def SimfsFuseUptoSaid : Prop := simfsFuseUptoRow.holds Try.pinned (OpenSpec.upto simfsFuseSpec)

end Rows
end Go.Proofs.Ytomkieennkobcaa
