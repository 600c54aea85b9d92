import Derived.Test.YtnecafhakkjbpaaOpenSb
/- What came in, opened: bulks, slices of ints with their capacity. -/
namespace Go.Proofs.Ytnecafhakkjbpaa
open Go.RowKit Go.ChangeShapes Go.WideShapes Go.ChangeAt Go.Deep

theorem bulk_nth {H : Type} {parts : List (DataW H)} {d : DataW H} {j : Nat} (h : parts[j]? = some d) : Rows.uptoBulk d ≤ Rows.uptoBulk (.agg parts) := by
  have := bulk_part (List.mem_of_getElem? h)
  simp only [Rows.uptoBulk]
  omega
theorem bulk_to {H : Type} {d : DataW H} {n : Nat} {p : Prop} (h : (d = .nil ∧ p) ∨ ∃ el sp, d = .slice el sp ∧ el.length = n) (hp : p → n = 0) : n ≤ Rows.uptoBulk d := by
  rcases h with ⟨_, h⟩ | ⟨el, sp, rfl, h2⟩
  · rw [hp h]; omega
  · have := bulk_slice el sp; omega
section
variable {H : Type} {enc : TypeId × Value → H} {P : Program} {w : World} {n : Nat} {t e : TypeId} {c : Value} {y : DataW H × List MemPlace}
theorem op_intsc {k : IntKind} (ht : P.underlying t = some (.slice e)) (he : P.underlying e = some (.int k)) (hc : P.cellsOf e = 1) (h : TR enc P w n t [c] y) :
    ∃ (A : Option Addr) (l : List Int) (cap : Nat), c = .slice A l.length cap ∧ Rd w w.heap.size A (l.map (.int k)) ∧ (∀ x ∈ l, (Lit.int k x).wf = true) ∧ ((y.1 = .nil ∧ l = []) ∨ ∃ el sp, y.1 = .slice el sp ∧ el.length = l.length) ∧ l.length ≤ cap := by
  rcases open_ints ht he hc h with ⟨hcs, hy⟩ | ⟨a, len, cap, zs, hcs, _, hl, hm, hz, hy, hcell, hw⟩
  · refine ⟨none, [], 0, by simpa using hcs, Rd.nil _ _ _, by simp, .inl ⟨by rw [hy], rfl⟩, Nat.le_refl _⟩
  · have hz' : zs.length = cap := by simpa using hz
    have hlen : (zs.take len).length = len := by simp; omega
    refine ⟨some a, zs.take len, cap, by rw [hlen]; simpa using hcs, ?_, fun x hx => hw x (List.mem_of_mem_take hx), .inr ⟨lits k (zs.take len), lits k (zs.drop len), by rw [hy], by simp [lits]⟩, by rw [hlen]; exact hl⟩
    intro j u hj
    obtain ⟨hj1, hj2⟩ := List.getElem?_eq_some_iff.1 hj
    have hjl : j < zs.length := by simp at hj1; omega
    have hc := hcell j hjl
    refine ⟨a, rfl, ?_, ?_⟩
    · rw [← add_block a j]; exact World.block_lt_of_cell? _ _ hc
    · rw [hc, ← hj2]; simp [List.getD_eq_getElem?_getD, List.getElem?_eq_getElem hjl]
end
end Go.Proofs.Ytnecafhakkjbpaa
