import Derived.Test.YtnecafhakkjbpaaMg3
import Derived.Test.YtnecafhakkjbpaaOpenG
/- Texts that came in, opened. -/
namespace Go.Proofs.Ytnecafhakkjbpaa
open Go.RowKit Go.ChangeShapes Go.WideShapes Go.ChangeAt Go.Deep

theorem sum_bulk {H : Type} : ∀ (l : List (List UInt8)) (ds : List (DataW H)), l.length = ds.length → (∀ (i : Nat) (b : List UInt8) (d : DataW H), l[i]? = some b → ds[i]? = some d → b.length ≤ Rows.uptoBulk d) → sumT l ≤ Rows.uptoBulkAll ds
  | [], [], _, _ => by simp [sumT, Rows.uptoBulkAll]
  | [], _ :: _, h, _ => by simp at h
  | _ :: _, [], h, _ => by simp at h
  | b :: l, d :: ds, h, hp => by
    have h1 := sum_bulk l ds (by simpa using h) fun i b' d' hb hd => hp (i + 1) b' d' (by simpa using hb) (by simpa using hd)
    have h2 := hp 0 b d rfl rfl
    simp only [sumT, List.map_cons, List.sum_cons, Rows.uptoBulkAll] at h1 ⊢
    omega
section
variable {H : Type} {enc : TypeId × Value → H} {w : World}
set_option maxRecDepth 100000 in
theorem op_bytess (n : Nat) (c : Value) (y : DataW H × List MemPlace) (h : TR enc Try.prog w n 22 [c] y) :
    ∃ (A : Option Addr) (l : List (List UInt8)) (cap : Nat), c = .slice A l.length cap ∧ TXs w w.heap.size A l ∧ sumT l ≤ Rows.uptoBulk y.1 ∧ l.length ≤ Rows.uptoBulk y.1 := by
  rcases open_slice Try.underlying22 h with ⟨hcs, hy⟩ | ⟨a, len, cap, q, n', D, Pl, hcs, _, hl, hm, hq, hy, hi⟩
  · exact ⟨none, [], 0, by simpa using hcs, fun i b hb => by simp at hb, by simp [sumT], Nat.zero_le _⟩
  · have hq' : q = cap := by simpa using hq
    have hc : Try.prog.cellsOf 27 = 1 := by kernel_rfl
    rw [hc] at hi
    obtain ⟨l, hll, hlq⟩ := list_choice (Q := fun i (b : List UInt8) => b.length ≤ Rows.uptoBulk (D i) ∧ ∃ (x : Option Addr) (cx : Nat), w.cell? (a.add i) = some (.slice x b.length cx) ∧ Rd w w.heap.size x (bv b)) len fun i hlt => by
      obtain ⟨cs', h1, h2⟩ := hi i (by omega)
      obtain ⟨_, hl1, h4⟩ := World.cells?_some h1
      obtain ⟨v, rfl⟩ : ∃ v, cs' = [v] := by
        match cs', hl1 with
        | [v], _ => exact ⟨v, rfl⟩
      obtain ⟨A, b, cb, e, hr, _, hb⟩ := op_bytes Try.underlying27 Try.underlying5 (by kernel_rfl) h2
      have h5 := h4 0 (by decide)
      simp only [List.getElem?_cons_zero, Nat.mul_one] at h5
      subst e
      refine ⟨b, ?_, A, cb, ?_, hr⟩
      · have := bulk_to hb (fun h => by rw [h]; rfl)
        exact this
      · rw [add_add'] at h5
        simpa using h5
    refine ⟨some a, l, cap, by rw [hll]; simpa using hcs, fun i b hb => ?_, ?_, ?_⟩
    · obtain ⟨_, x, cx, h1, h2⟩ := hlq i b hb
      exact ⟨a, x, cx, rfl, by rw [← add_block a i]; exact World.block_lt_of_cell? _ _ h1, h1, h2⟩
    · rw [hy]
      have := sum_bulk l ((List.range len).map D) (by simp [hll]) fun i b d hb hd => by
        have hil : i < len := by rw [← hll]; exact (List.getElem?_eq_some_iff.1 hb).1
        rw [List.getElem?_map, List.getElem?_range hil] at hd
        simp at hd
        subst hd
        exact (hlq i b hb).1
      simp only [Rows.uptoBulk]
      omega
    · rw [hy, hll]
      have := bulk_len ((List.range len).map D)
      simp only [List.length_map, List.length_range] at this
      simp only [Rows.uptoBulk]
      omega
end
end Go.Proofs.Ytnecafhakkjbpaa
