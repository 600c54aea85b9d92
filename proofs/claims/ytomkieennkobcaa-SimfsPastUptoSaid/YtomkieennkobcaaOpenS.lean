import Derived.Test.YtomkieennkobcaaOpenSb
/- A step of a script that came in, opened. -/
namespace Go.Proofs.Ytomkieennkobcaa
open Go.RowKit Go.ChangeShapes Go.WideShapes Go.ChangeAt Go.Deep

/-- A step, and where its bytes and its picks lie. -/
structure SC where
  kind : Int
  nm : ByteArray
  to : ByteArray
  x : Int
  y : Int
  A : Option Addr
  bs : List UInt8
  c : Nat
  A2 : Option Addr
  ps : List Int
  c2 : Nat
abbrev SC.cells (s : SC) : List Value := [.int .i64 s.kind, .string s.nm, .string s.to, .int .i64 s.x, .int .i64 s.y, .slice s.A s.bs.length s.c, .slice s.A2 s.ps.length s.c2]
/-- What the step's slices read as, all below B. -/
def SC.Ok (s : SC) (w : World) (B : Nat) : Prop := Rd w B s.A (bv s.bs) ∧ Rd w B s.A2 (s.ps.map (Value.int .i64)) ∧ s.nm.size ≤ maxLen ∧ s.to.size ≤ maxLen ∧ (∀ x ∈ s.ps, (Lit.int .i64 x).wf = true)
theorem list7 {α : Type} {l : List α} (h : l.length = 7) : ∃ a b c d e f g, l = [a, b, c, d, e, f, g] := by
  match l, h with
  | [a, b, c, d, e, f, g], _ => exact ⟨a, b, c, d, e, f, g, rfl⟩
section
variable {H : Type} {enc : TypeId × Value → H} {w : World}
set_option maxRecDepth 100000 in
theorem op_step (n : Nat) (cs : List Value) (y : DataW H × List MemPlace) (h : TR enc Try.prog w n 44 cs y) :
    ∃ (s : SC) (parts : List (DataW H)), cs = s.cells ∧ s.Ok w w.heap.size ∧ y.1 = .agg parts ∧ parts.length = 7 ∧ (∃ d, parts[5]? = some d ∧ ((d = .nil ∧ s.bs = []) ∨ ∃ el sp, d = .slice el sp ∧ el.length = s.bs.length)) ∧
      (∃ d, parts[6]? = some d ∧ ((d = .nil ∧ s.ps = []) ∨ ∃ el sp, d = .slice el sp ∧ el.length = s.ps.length)) := by
  obtain ⟨hl, ys, n', hy, hyl, hf⟩ := op_fields Try.underlying44 (by kernel_rfl) (by kernel_rfl) h
  obtain ⟨c0, c1, c2, c3, c4, c5, c6, rfl⟩ := list7 hl
  obtain ⟨v, z, e0, _, t0⟩ := hf 0 _ rfl
  cases e0
  obtain ⟨v, z, e1, _, t1⟩ := hf 1 _ rfl
  cases e1
  obtain ⟨v, z, e2, _, t2⟩ := hf 2 _ rfl
  cases e2
  obtain ⟨v, z, e3, _, t3⟩ := hf 3 _ rfl
  cases e3
  obtain ⟨v, z, e4, _, t4⟩ := hf 4 _ rfl
  cases e4
  obtain ⟨v, z5, e5, y5, t5⟩ := hf 5 _ rfl
  cases e5
  obtain ⟨v, z6, e6, y6, t6⟩ := hf 6 _ rfl
  cases e6
  obtain ⟨x0, rfl, _⟩ := op_int Try.underlying3 t0
  obtain ⟨x1, rfl, _, hz1⟩ := op_string Try.underlying9 t1
  obtain ⟨x2, rfl, _, hz2⟩ := op_string Try.underlying9 t2
  obtain ⟨x3, rfl, _⟩ := op_int Try.underlying3 t3
  obtain ⟨x4, rfl, _⟩ := op_int Try.underlying3 t4
  obtain ⟨A, l, c, rfl, rA, _, dA⟩ := op_bytes Try.underlying22 Try.underlying5 (by kernel_rfl) t5
  obtain ⟨A2, l2, c2, rfl, rA2, wf2, dA2, _⟩ := op_ints Try.underlying23 Try.underlying3 (by kernel_rfl) t6
  refine ⟨⟨x0, x1, x2, x3, x4, A, l, c, A2, l2, c2⟩, ys.map (·.1), rfl, ⟨rA, rA2, hz1, hz2, wf2⟩, hy, by simpa using hyl, ⟨z5.1, by rw [List.getElem?_map, y5]; rfl, dA⟩, ⟨z6.1, by rw [List.getElem?_map, y6]; rfl, dA2⟩⟩
end
end Go.Proofs.Ytomkieennkobcaa
