import Derived.Test.YtociadicjbkjcaaOpen
import Derived.Test.YtociadicjbkjcaaKd12
import Derived.Test.YtociadicjbkjcaaRows
/-
  Keys with their entries and rows of strings that came in, opened; the bound of an '..UptoSaid' on a slice's length.
-/
namespace Go.Proofs.Ytociadicjbkjcaa
open Go.RowKit Go.ChangeShapes Go.WideShapes Go.ChangeAt Go.Deep

theorem list7 {α : Type} {l : List α} (h : l.length = 7) : ∃ a b c d e f g, l = [a, b, c, d, e, f, g] := by
  match l, h with
  | [a, b, c, d, e, f, g], _ => exact ⟨a, b, c, d, e, f, g, rfl⟩
section
variable {H : Type} {enc : TypeId × Value → H} {w : World}
set_option maxRecDepth 100000 in
theorem op_ke (n : Nat) (cs : List Value) (y : DataW H × List MemPlace) (h : TR enc Try.prog w n 28 cs y) : ∃ a : KE, cs = keC a ∧ a.1.size ≤ maxLen := by
  obtain ⟨y0, y1, n', _, hl, h0, h1⟩ := trod_struct2 Try.underlying28 h
  have hl7 : cs.length = 7 := hl.trans (by kernel_rfl)
  obtain ⟨c0, c1, c2, c3, c4, c5, c6, rfl⟩ := list7 hl7
  have t0 : TR enc Try.prog w n' 9 [c0] y0 := h0
  have h1' : TR enc Try.prog w n' 26 [c1, c2, c3, c4, c5, c6] y1 := h1
  obtain ⟨_, ys, n'', _, hyl, hf⟩ := op_fields Try.underlying26 (by kernel_rfl) (by kernel_rfl) h1'
  obtain ⟨x0, rfl, _, hz⟩ := op_string Try.underlying9 t0
  obtain ⟨v, z, e1, _, t1⟩ := hf 0 _ rfl
  cases e1
  obtain ⟨v, z, e2, _, t2⟩ := hf 1 _ rfl
  cases e2
  obtain ⟨v, z, e3, _, t3⟩ := hf 2 _ rfl
  cases e3
  obtain ⟨v, z, e4, _, t4⟩ := hf 3 _ rfl
  cases e4
  obtain ⟨v, z, e5, _, t5⟩ := hf 4 _ rfl
  cases e5
  obtain ⟨v, z, e6, _, t6⟩ := hf 5 _ rfl
  cases e6
  obtain ⟨x1, rfl, _⟩ := op_int Try.underlying3 t1
  obtain ⟨x2, rfl, _⟩ := op_int Try.underlying3 t2
  obtain ⟨x3, rfl, _⟩ := op_int Try.underlying3 t3
  obtain ⟨x4, rfl, _⟩ := op_int Try.underlying2 t4
  obtain ⟨x5, rfl, _⟩ := op_int Try.underlying2 t5
  obtain ⟨x6, rfl, _⟩ := op_bool Try.underlying4 t6
  exact ⟨(x0, ⟨x1, x2, x3, x4, x5, x6⟩), rfl, hz⟩
theorem op_str1 (n : Nat) (cs : List Value) (y : DataW H × List MemPlace) (h : TR enc Try.prog w n 9 cs y) : ∃ a : ByteArray, cs = (fun s : ByteArray => [Value.string s]) a ∧ a.size ≤ maxLen := by
  obtain ⟨x, h1, h2, h3⟩ := DataW.trod_string Try.underlying9 h
  exact ⟨x, h1, h3⟩
end
theorem flat_str (l : List ByteArray) : l.flatMap (fun s : ByteArray => [Value.string s]) = l.map Value.string := by
  induction l with
  | nil => rfl
  | cons x r ih => rw [List.flatMap_cons, ih]; rfl
theorem bulk_one {H : Type} (d : DataW H) : 1 ≤ Rows.uptoBulk d := by
  cases d with
  | lit l => cases l <;> simp [Rows.uptoBulk]
  | nil => simp [Rows.uptoBulk]
  | ptr d => simp [Rows.uptoBulk]
  | slice elems spare => simp [Rows.uptoBulk]
  | agg parts => simp [Rows.uptoBulk]
  | iface t d => simp [Rows.uptoBulk]
  | map entries => simp [Rows.uptoBulk]
  | held h => simp [Rows.uptoBulk]
theorem bulk_len {H : Type} (l : List (DataW H)) : l.length ≤ Rows.uptoBulkAll l := by
  induction l with
  | nil => simp
  | cons x r ih => have := bulk_one x; simp only [Rows.uptoBulkAll, List.length_cons]; omega
theorem bulk_slice {H : Type} (elems spare : List (DataW H)) : elems.length ≤ Rows.uptoBulk (.slice elems spare) := by
  have h1 := bulk_len elems
  simp only [Rows.uptoBulk]
  omega
theorem bulk_part {H : Type} {d : DataW H} {l : List (DataW H)} (h : d ∈ l) : Rows.uptoBulk d ≤ Rows.uptoBulkAll l := by
  induction l with
  | nil => cases h
  | cons x r ih =>
    simp only [Rows.uptoBulkAll]
    cases List.mem_cons.1 h with
    | inl e => subst e; omega
    | inr e => have := ih e; omega
theorem bulk_bound {H : Type} {l : List (DataW H)} (hk : Rows.uptoSmall H l = true) : Rows.uptoBulkAll l ≤ 1048576 := of_decide_eq_true hk
/-- A slice's length is at most its bulk. -/
theorem bulk_row {H : Type} {d : DataW H} {n : Nat} {p : Prop} {q : Nat} (h : (d = .nil ∧ p) ∨ ∃ el sp, d = .slice el sp ∧ el.length = n) (hp : p → n = 0) (hb : Rows.uptoBulk d ≤ q) : n ≤ q := by
  rcases h with ⟨_, h⟩ | ⟨el, sp, rfl, h2⟩
  · rw [hp h]; omega
  · have := bulk_slice el sp; omega
end Go.Proofs.Ytociadicjbkjcaa
