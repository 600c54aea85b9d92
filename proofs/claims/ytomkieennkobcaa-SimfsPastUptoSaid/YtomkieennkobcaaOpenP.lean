import Derived.Test.YtomkieennkobcaaOpenT
/- A script that came in, opened: the picks' capacities too. -/
namespace Go.Proofs.Ytomkieennkobcaa
open Go.RowKit Go.ChangeShapes Go.WideShapes Go.ChangeAt Go.Deep

section
variable {H : Type} {enc : TypeId × Value → H} {P : Program} {w : World} {n : Nat} {t e : TypeId} {c : Value} {y : DataW H × List MemPlace}
theorem op_intsc {k : IntKind} (ht : P.underlying t = some (.slice e)) (he : P.underlying e = some (.int k)) (hc : P.cellsOf e = 1) (h : TR enc P w n t [c] y) :
    ∃ (A : Option Addr) (l : List Int) (cap : Nat), c = .slice A l.length cap ∧ Rd w w.heap.size A (l.map (.int k)) ∧ (∀ x ∈ l, (Lit.int k x).wf = true) ∧ ((y.1 = .nil ∧ l = []) ∨ ∃ el sp, y.1 = .slice el sp ∧ el.length = l.length) ∧ l.length ≤ cap := by
  rcases open_ints ht he hc h with ⟨hcs, hy⟩ | ⟨a, len, cap, zs, hcs, _, hl, hm, hz, hy, hcell, hw⟩
  · refine ⟨none, [], 0, by simpa using hcs, Rd.nil _ _ _, by simp, .inl ⟨by rw [hy], rfl⟩, Nat.le_refl _⟩
  · have hz' : zs.length = cap := by simpa using hz
    have hlen : (zs.take len).length = len := by simp; omega
    refine ⟨some a, zs.take len, cap, by rw [hlen]; simpa using hcs, ?_, fun x hx => hw x (List.mem_of_mem_take hx), .inr ⟨lits k (zs.take len), lits k (zs.drop len), by rw [hy], by simp [lits]⟩, by rw [hlen]; exact hl⟩
    intro j u hj
    obtain ⟨hj1, hj2⟩ := List.getElem?_eq_some_iff.1 hj
    have hjl : j < zs.length := by simp at hj1; omega
    have hc := hcell j hjl
    refine ⟨a, rfl, ?_, ?_⟩
    · rw [← add_block a j]; exact World.block_lt_of_cell? _ _ hc
    · rw [hc, ← hj2]; simp [List.getD_eq_getElem?_getD, List.getElem?_eq_getElem hjl]
end
section
variable {H : Type} {enc : TypeId × Value → H} {w : World}
set_option maxRecDepth 100000 in
theorem step_cap (s : SC) (n : Nat) (y : DataW H × List MemPlace) (h : TR enc Try.prog w n 44 s.cells y) : s.ps.length ≤ s.c2 := by
  obtain ⟨_, ys, n', _, _, hf⟩ := op_fields Try.underlying44 (by kernel_rfl) (by kernel_rfl) h
  obtain ⟨v, z6, e6, y6, t6⟩ := hf 6 _ rfl
  cases e6
  obtain ⟨A, l, c, e, _, _, _, hc⟩ := op_intsc Try.underlying23 Try.underlying3 (by kernel_rfl) t6
  injection e with _ e1 e2
  omega
end
section
variable {H : Type} {enc : TypeId × Value → H} {w : World}
set_option maxRecDepth 100000 in
theorem op_stepsc (n : Nat) (c : Value) (y : DataW H × List MemPlace) (h : TR enc Try.prog w n 40 [c] y) :
    ∃ (A : Option Addr) (l : List SC) (cap : Nat), c = .slice A l.length cap ∧ Stp w w.heap.size A l ∧ (∀ s ∈ l, s.bs.length ≤ Rows.uptoBulk y.1 ∧ s.ps.length ≤ Rows.uptoBulk y.1) ∧ l.length ≤ Rows.uptoBulk y.1 ∧ l.length ≤ cap ∧ ∀ s ∈ l, s.ps.length ≤ s.c2 := by
  rcases open_slice Try.underlying40 h with ⟨hcs, hy⟩ | ⟨a, len, cap, q, n', D, Pl, hcs, _, hl, hm, hq, hy, hi⟩
  · exact ⟨none, [], 0, by simpa using hcs, ⟨Rd.nil _ _ _, by simp⟩, by simp, Nat.zero_le _, Nat.le_refl _, by simp⟩
  · have hq' : q = cap := by simpa using hq
    have hc : Try.prog.cellsOf 44 = 7 := by kernel_rfl
    rw [hc] at hi
    have hf : ∀ s : SC, s.cells.length = 7 := fun _ => rfl
    have hD : ∀ i, i < len → Rows.uptoBulk (D i) ≤ Rows.uptoBulk y.1 := fun i hlt => by
      rw [hy]
      have := bulk_part (show D i ∈ (List.range len).map D from List.mem_map.2 ⟨i, List.mem_range.2 hlt, rfl⟩)
      simp only [Rows.uptoBulk]
      omega
    obtain ⟨l, hll, hlq⟩ := list_choice (Q := fun i (b : SC) => ((b.Ok w w.heap.size ∧ b.bs.length ≤ Rows.uptoBulk y.1 ∧ b.ps.length ≤ Rows.uptoBulk y.1) ∧ b.ps.length ≤ b.c2) ∧ w.cells? 0 (a.add (i * 7)) 7 = some b.cells) len fun i hlt => by
      obtain ⟨cs', h1, h2⟩ := hi i (by omega)
      obtain ⟨b, parts, rfl, hg, e2, _, ⟨d5, e5, b5⟩, d6, e6, b6⟩ := op_step _ _ _ h2
      have hd := hD i hlt
      have e2' : D i = .agg parts := e2
      rw [e2'] at hd
      have h5 := bulk_nth e5
      have h6 := bulk_nth e6
      have g5 := bulk_to b5 (fun h => by rw [h]; rfl)
      have g6 := bulk_to b6 (fun h => by rw [h]; rfl)
      exact ⟨b, ⟨⟨hg, by omega, by omega⟩, step_cap _ _ _ h2⟩, h1⟩
    refine ⟨some a, l, cap, by rw [hll]; simpa using hcs, ⟨?_, fun s hs => ?_⟩, fun s hs => ?_, ?_, by omega, fun s hs => ?_⟩
    · intro j u hj
      obtain ⟨b, h1, h2⟩ := flat_at SC.cells 7 hf l j u hj
      obtain ⟨_, h3⟩ := hlq _ _ h1
      obtain ⟨_, _, h4⟩ := World.cells?_some h3
      have hlt : j % 7 < 7 := Nat.mod_lt _ (by decide)
      have h5 := h4 (j % 7) hlt
      rw [h2, add_add', Nat.mul_comm, Nat.div_add_mod] at h5
      refine ⟨a, rfl, ?_, h5⟩
      rw [← add_block a j]; exact World.block_lt_of_cell? _ _ h5
    · obtain ⟨i, hi', rfl⟩ := List.getElem_of_mem hs
      exact (hlq i _ (List.getElem?_eq_getElem hi')).1.1.1
    · obtain ⟨i, hi', rfl⟩ := List.getElem_of_mem hs
      exact (hlq i _ (List.getElem?_eq_getElem hi')).1.1.2
    · rw [hy, hll]
      have := bulk_len ((List.range len).map D)
      simp only [List.length_map, List.length_range] at this
      simp only [Rows.uptoBulk]
      omega
    · obtain ⟨i, hi', rfl⟩ := List.getElem_of_mem hs
      exact (hlq i _ (List.getElem?_eq_getElem hi')).1.2
end
end Go.Proofs.Ytomkieennkobcaa
