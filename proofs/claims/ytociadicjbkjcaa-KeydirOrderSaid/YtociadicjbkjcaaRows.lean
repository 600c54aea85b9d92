/-
  No cell of these rows narrows 'for every input' (looked for: loops, veiled, ifaces, maps, wideKeys, modest, calm, conditions, laid).
  DERIVED. THE GIVEN ROWS OF THIS SEAT. 6 by the template 'for every input the law returns true; each argument reads behind the call as it read before'; 0 by the template 'total and deterministic' (their statements: YtociadicjbkjcaaTotals.lean).
  GIVEN WITH THE SEED: the statements are not yours to turn. If you find one false, say at which input.
  Laid BY PROGRAM, IN A SANDBOX (cutbox-rows.mjs): the forced cells as the released guide's own fill.sh prints them over the translation e0c5246e38b4999d… (all of the seat's roots in one cut). By AI agents, Wed Nov 11 2026. No macro, syntax, notation, axiom, sorry.
-/
import Derived.Test.YtociadicjbkjcaaChecked
import GoSem.Claim
import GoSem.ClaimJoined
import GoSem.ClaimMapViews
import Derived.JoinedTies
import Derived.KernelRfl
namespace Go.Proofs.Ytociadicjbkjcaa
/- THE CELL 'sum', in the pinned program and in every row, IS THE sha256 OF THE DUMP (.gsa) THAT YtociadicjbkjcaaProg.lean LOADS. Nothing in Lean hashes anything: it is a label: what it is worth is what the hold of that sum in a sandbox is worth. -/
noncomputable def Try.pinned : Pinned := { name := "ytociadicjbkjcaa", sum := "e0c5246e38b4999da167e79615ad96006d4e1638e3a434bd9576b85680cb4aad", checked := Try.checked }
namespace Rows
def none {H : Type} : Left H := { results := [], args := [] }

/-- 'chroniclelaw8.KeydirNoted': WHATEVER THE INPUT: true; the input reads as it did. -/
def keydirNotedSpec : ChangeSpec := { name := "keydirNoted", fn := fun _ => fun
  | [d1, d2] => { results := [.lit (.bool true)], args := [d1, d2] }
  | _ => none }
def keydirNotedRow : OpenClaim := { program := "ytociadicjbkjcaa", sum := "e0c5246e38b4999da167e79615ad96006d4e1638e3a434bd9576b85680cb4aad", func := "chronicle/chroniclelaw8.KeydirNoted", spec := "keydirNoted", unfollowed := true, recurses := true, apart := false }
def KeydirNotedSaid : Prop := keydirNotedRow.holds Try.pinned (OpenSpec.ofChange keydirNotedSpec)

/-- ITS FALSE NEIGHBOUR: 'it returns false'. Refute it at one input. -/
def keydirNotedWrong : ChangeSpec := { name := "keydirNoted", fn := fun _ => fun
  | [d1, d2] => { results := [.lit (.bool false)], args := [d1, d2] }
  | _ => none }
def KeydirNotedWrongFalsely : Prop := keydirNotedRow.holds Try.pinned (OpenSpec.ofChange keydirNotedWrong)

/-- 'chroniclelaw8.KeydirMap': WHATEVER THE INPUT: true; the input reads as it did. -/
def keydirMapSpec : ChangeSpec := { name := "keydirMap", fn := fun _ => fun
  | [d1, d2] => { results := [.lit (.bool true)], args := [d1, d2] }
  | _ => none }
def keydirMapRow : OpenClaim := { program := "ytociadicjbkjcaa", sum := "e0c5246e38b4999da167e79615ad96006d4e1638e3a434bd9576b85680cb4aad", func := "chronicle/chroniclelaw8.KeydirMap", spec := "keydirMap", unfollowed := true, recurses := true, apart := false }
def KeydirMapSaid : Prop := keydirMapRow.holds Try.pinned (OpenSpec.ofChange keydirMapSpec)

/-- ITS FALSE NEIGHBOUR: 'it returns false'. Refute it at one input. -/
def keydirMapWrong : ChangeSpec := { name := "keydirMap", fn := fun _ => fun
  | [d1, d2] => { results := [.lit (.bool false)], args := [d1, d2] }
  | _ => none }
def KeydirMapWrongFalsely : Prop := keydirMapRow.holds Try.pinned (OpenSpec.ofChange keydirMapWrong)

/-- 'chroniclelaw8.KeydirFrozen': WHATEVER THE INPUT: true; the input reads as it did. -/
def keydirFrozenSpec : ChangeSpec := { name := "keydirFrozen", fn := fun _ => fun
  | [d1, d2, d3, d4] => { results := [.lit (.bool true)], args := [d1, d2, d3, d4] }
  | _ => none }
def keydirFrozenRow : OpenClaim := { program := "ytociadicjbkjcaa", sum := "e0c5246e38b4999da167e79615ad96006d4e1638e3a434bd9576b85680cb4aad", func := "chronicle/chroniclelaw8.KeydirFrozen", spec := "keydirFrozen", unfollowed := true, recurses := true, apart := false }
def KeydirFrozenSaid : Prop := keydirFrozenRow.holds Try.pinned (OpenSpec.ofChange keydirFrozenSpec)

/-- ITS FALSE NEIGHBOUR: 'it returns false'. Refute it at one input. -/
def keydirFrozenWrong : ChangeSpec := { name := "keydirFrozen", fn := fun _ => fun
  | [d1, d2, d3, d4] => { results := [.lit (.bool false)], args := [d1, d2, d3, d4] }
  | _ => none }
def KeydirFrozenWrongFalsely : Prop := keydirFrozenRow.holds Try.pinned (OpenSpec.ofChange keydirFrozenWrong)

/-- 'chroniclelaw8.KeydirOrder': WHATEVER THE INPUT: true; the input reads as it did. -/
def keydirOrderSpec : ChangeSpec := { name := "keydirOrder", fn := fun _ => fun
  | [d1, d2, d3, d4] => { results := [.lit (.bool true)], args := [d1, d2, d3, d4] }
  | _ => none }
def keydirOrderRow : OpenClaim := { program := "ytociadicjbkjcaa", sum := "e0c5246e38b4999da167e79615ad96006d4e1638e3a434bd9576b85680cb4aad", func := "chronicle/chroniclelaw8.KeydirOrder", spec := "keydirOrder", unfollowed := true, recurses := true, apart := false }
def KeydirOrderSaid : Prop := keydirOrderRow.holds Try.pinned (OpenSpec.ofChange keydirOrderSpec)

/-- ITS FALSE NEIGHBOUR: 'it returns false'. Refute it at one input. -/
def keydirOrderWrong : ChangeSpec := { name := "keydirOrder", fn := fun _ => fun
  | [d1, d2, d3, d4] => { results := [.lit (.bool false)], args := [d1, d2, d3, d4] }
  | _ => none }
def KeydirOrderWrongFalsely : Prop := keydirOrderRow.holds Try.pinned (OpenSpec.ofChange keydirOrderWrong)

/-- 'chroniclelaw8.KeydirMoves': WHATEVER THE INPUT: true; the input reads as it did. -/
def keydirMovesSpec : ChangeSpec := { name := "keydirMoves", fn := fun _ => fun
  | [d] => { results := [.lit (.bool true)], args := [d] }
  | _ => none }
def keydirMovesRow : OpenClaim := { program := "ytociadicjbkjcaa", sum := "e0c5246e38b4999da167e79615ad96006d4e1638e3a434bd9576b85680cb4aad", func := "chronicle/chroniclelaw8.KeydirMoves", spec := "keydirMoves", unfollowed := true, recurses := true, apart := false }
def KeydirMovesSaid : Prop := keydirMovesRow.holds Try.pinned (OpenSpec.ofChange keydirMovesSpec)

/-- ITS FALSE NEIGHBOUR: 'it returns false'. Refute it at one input. -/
def keydirMovesWrong : ChangeSpec := { name := "keydirMoves", fn := fun _ => fun
  | [d] => { results := [.lit (.bool false)], args := [d] }
  | _ => none }
def KeydirMovesWrongFalsely : Prop := keydirMovesRow.holds Try.pinned (OpenSpec.ofChange keydirMovesWrong)

/-- 'chroniclelaw8.KeydirNone': WHATEVER THE INPUT: true; the input reads as it did. -/
def keydirNoneSpec : ChangeSpec := { name := "keydirNone", fn := fun _ => fun
  | [] => { results := [.lit (.bool true)], args := [] }
  | _ => none }
def keydirNoneRow : OpenClaim := { program := "ytociadicjbkjcaa", sum := "e0c5246e38b4999da167e79615ad96006d4e1638e3a434bd9576b85680cb4aad", func := "chronicle/chroniclelaw8.KeydirNone", spec := "keydirNone", unfollowed := true, recurses := true, apart := false }
def KeydirNoneSaid : Prop := keydirNoneRow.holds Try.pinned (OpenSpec.ofChange keydirNoneSpec)

/-- ITS FALSE NEIGHBOUR: 'it returns false'. Refute it at one input. -/
def keydirNoneWrong : ChangeSpec := { name := "keydirNone", fn := fun _ => fun
  | [] => { results := [.lit (.bool false)], args := [] }
  | _ => none }
def KeydirNoneWrongFalsely : Prop := keydirNoneRow.holds Try.pinned (OpenSpec.ofChange keydirNoneWrong)

/- THE SECOND FORM. 'bulk': how many values and letters a reading holds, each counted each time it is reached (what is shared counts as often as it is met; a slice's spare places count too). A statement '..UptoSaid' is the law's where the arguments, and the package variables that the reading takes, are together of bulk at most 1048576: NARROWER than '..Said'. Prove '..Said' where nothing that the law and all that it calls make is longer than what came in: it says more and counts as full. Else prove '..UptoSaid'. A law counts once. -/
mutual
def uptoBulk {H : Type} : DataW H → Nat
  | .lit (.string bytes) => bytes.length + 1
  | .lit _ => 1
  | .nil => 1
  | .ptr d => uptoBulk d + 1
  | .slice elems spare => uptoBulkAll elems + uptoBulkAll spare + 1
  | .agg parts => uptoBulkAll parts + 1
  | .iface _ d => uptoBulk d + 1
  | .map entries => uptoBulkEntries entries + 1
  | .held _ => 1
def uptoBulkAll {H : Type} : List (DataW H) → Nat
  | [] => 0
  | d :: r => uptoBulk d + uptoBulkAll r
def uptoBulkEntries {H : Type} : List (Lit × DataW H) → Nat
  | [] => 0
  | x :: r => uptoBulkEntry x + uptoBulkEntries r
def uptoBulkEntry {H : Type} : Lit × DataW H → Nat
  | (.string bytes, d) => bytes.length + uptoBulk d + 1
  | (_, d) => uptoBulk d + 1
 end
def uptoSmall : (H : Type) → List (DataW H) → Bool := fun _ ds => decide (uptoBulkAll ds ≤ 1048576)
def OpenSpec.upto (s : _root_.Go.ChangeSpec) : _root_.Go.OpenSpec := { _root_.Go.OpenSpec.ofChange s with cond := some uptoSmall }

/-- 'chroniclelaw8.KeydirNoted', WHERE WHAT IT READS IS OF BULK AT MOST 1048576: true; the input reads as it did. -/
def keydirNotedUptoRow : OpenClaim := { program := "ytociadicjbkjcaa", sum := "e0c5246e38b4999da167e79615ad96006d4e1638e3a434bd9576b85680cb4aad", func := "chronicle/chroniclelaw8.KeydirNoted", spec := "keydirNoted", unfollowed := true, recurses := true, apart := false, narrowed := true }
def KeydirNotedUptoSaid : Prop := keydirNotedUptoRow.holds Try.pinned (OpenSpec.upto keydirNotedSpec)

/-- 'chroniclelaw8.KeydirMap', WHERE WHAT IT READS IS OF BULK AT MOST 1048576: true; the input reads as it did. -/
def keydirMapUptoRow : OpenClaim := { program := "ytociadicjbkjcaa", sum := "e0c5246e38b4999da167e79615ad96006d4e1638e3a434bd9576b85680cb4aad", func := "chronicle/chroniclelaw8.KeydirMap", spec := "keydirMap", unfollowed := true, recurses := true, apart := false, narrowed := true }
def KeydirMapUptoSaid : Prop := keydirMapUptoRow.holds Try.pinned (OpenSpec.upto keydirMapSpec)

/-- 'chroniclelaw8.KeydirFrozen', WHERE WHAT IT READS IS OF BULK AT MOST 1048576: true; the input reads as it did. -/
def keydirFrozenUptoRow : OpenClaim := { program := "ytociadicjbkjcaa", sum := "e0c5246e38b4999da167e79615ad96006d4e1638e3a434bd9576b85680cb4aad", func := "chronicle/chroniclelaw8.KeydirFrozen", spec := "keydirFrozen", unfollowed := true, recurses := true, apart := false, narrowed := true }
def KeydirFrozenUptoSaid : Prop := keydirFrozenUptoRow.holds Try.pinned (OpenSpec.upto keydirFrozenSpec)

/-- 'chroniclelaw8.KeydirOrder', WHERE WHAT IT READS IS OF BULK AT MOST 1048576: true; the input reads as it did. -/
def keydirOrderUptoRow : OpenClaim := { program := "ytociadicjbkjcaa", sum := "e0c5246e38b4999da167e79615ad96006d4e1638e3a434bd9576b85680cb4aad", func := "chronicle/chroniclelaw8.KeydirOrder", spec := "keydirOrder", unfollowed := true, recurses := true, apart := false, narrowed := true }
def KeydirOrderUptoSaid : Prop := keydirOrderUptoRow.holds Try.pinned (OpenSpec.upto keydirOrderSpec)

/-- 'chroniclelaw8.KeydirMoves', WHERE WHAT IT READS IS OF BULK AT MOST 1048576: true; the input reads as it did. -/
def keydirMovesUptoRow : OpenClaim := { program := "ytociadicjbkjcaa", sum := "e0c5246e38b4999da167e79615ad96006d4e1638e3a434bd9576b85680cb4aad", func := "chronicle/chroniclelaw8.KeydirMoves", spec := "keydirMoves", unfollowed := true, recurses := true, apart := false, narrowed := true }
def KeydirMovesUptoSaid : Prop := keydirMovesUptoRow.holds Try.pinned (OpenSpec.upto keydirMovesSpec)

/-- 'chroniclelaw8.KeydirNone', WHERE WHAT IT READS IS OF BULK AT MOST 1048576: true; the input reads as it did. -/
def keydirNoneUptoRow : OpenClaim := { program := "ytociadicjbkjcaa", sum := "e0c5246e38b4999da167e79615ad96006d4e1638e3a434bd9576b85680cb4aad", func := "chronicle/chroniclelaw8.KeydirNone", spec := "keydirNone", unfollowed := true, recurses := true, apart := false, narrowed := true }
def KeydirNoneUptoSaid : Prop := keydirNoneUptoRow.holds Try.pinned (OpenSpec.upto keydirNoneSpec)

end Rows
end Go.Proofs.Ytociadicjbkjcaa
