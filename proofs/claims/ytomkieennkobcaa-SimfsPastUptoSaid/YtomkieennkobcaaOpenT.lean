import Derived.Test.YtomkieennkobcaaOpenS
import Derived.Test.YtomkieennkobcaaRows
/- The steps of a script that came in, opened; the bounds of an '..UptoSaid'. -/
namespace Go.Proofs.Ytomkieennkobcaa
open Go.RowKit Go.ChangeShapes Go.WideShapes Go.ChangeAt Go.Deep

/-- A script, read at A. -/
def Stp (w : World) (B : Nat) (A : Option Addr) (l : List SC) : Prop := Rd w B A (l.flatMap SC.cells) ∧ ∀ s ∈ l, s.Ok w B
theorem bulk_nth {H : Type} {parts : List (DataW H)} {d : DataW H} {j : Nat} (h : parts[j]? = some d) : Rows.uptoBulk d ≤ Rows.uptoBulk (.agg parts) := by
  have := bulk_part (List.mem_of_getElem? h)
  simp only [Rows.uptoBulk]
  omega
theorem bulk_to {H : Type} {d : DataW H} {n : Nat} {p : Prop} (h : (d = .nil ∧ p) ∨ ∃ el sp, d = .slice el sp ∧ el.length = n) (hp : p → n = 0) : n ≤ Rows.uptoBulk d := by
  rcases h with ⟨_, h⟩ | ⟨el, sp, rfl, h2⟩
  · rw [hp h]; omega
  · have := bulk_slice el sp; omega
section
variable {H : Type} {enc : TypeId × Value → H} {w : World}
set_option maxRecDepth 100000 in
theorem op_steps (n : Nat) (c : Value) (y : DataW H × List MemPlace) (h : TR enc Try.prog w n 40 [c] y) :
    ∃ (A : Option Addr) (l : List SC) (cap : Nat), c = .slice A l.length cap ∧ Stp w w.heap.size A l ∧ (∀ s ∈ l, s.bs.length ≤ Rows.uptoBulk y.1 ∧ s.ps.length ≤ Rows.uptoBulk y.1) ∧ l.length ≤ Rows.uptoBulk y.1 ∧ l.length ≤ cap := by
  rcases open_slice Try.underlying40 h with ⟨hcs, hy⟩ | ⟨a, len, cap, q, n', D, Pl, hcs, _, hl, hm, hq, hy, hi⟩
  · exact ⟨none, [], 0, by simpa using hcs, ⟨Rd.nil _ _ _, by simp⟩, by simp, Nat.zero_le _, Nat.le_refl _⟩
  · have hq' : q = cap := by simpa using hq
    have hc : Try.prog.cellsOf 44 = 7 := by kernel_rfl
    rw [hc] at hi
    have hf : ∀ s : SC, s.cells.length = 7 := fun _ => rfl
    have hD : ∀ i, i < len → Rows.uptoBulk (D i) ≤ Rows.uptoBulk y.1 := fun i hlt => by
      rw [hy]
      have := bulk_part (show D i ∈ (List.range len).map D from List.mem_map.2 ⟨i, List.mem_range.2 hlt, rfl⟩)
      simp only [Rows.uptoBulk]
      omega
    obtain ⟨l, hll, hlq⟩ := list_choice (Q := fun i (b : SC) => (b.Ok w w.heap.size ∧ b.bs.length ≤ Rows.uptoBulk y.1 ∧ b.ps.length ≤ Rows.uptoBulk y.1) ∧ w.cells? 0 (a.add (i * 7)) 7 = some b.cells) len fun i hlt => by
      obtain ⟨cs', h1, h2⟩ := hi i (by omega)
      obtain ⟨b, parts, rfl, hg, e2, _, ⟨d5, e5, b5⟩, d6, e6, b6⟩ := op_step _ _ _ h2
      have hd := hD i hlt
      have e2' : D i = .agg parts := e2
      rw [e2'] at hd
      have h5 := bulk_nth e5
      have h6 := bulk_nth e6
      have g5 := bulk_to b5 (fun h => by rw [h]; rfl)
      have g6 := bulk_to b6 (fun h => by rw [h]; rfl)
      exact ⟨b, ⟨hg, by omega, by omega⟩, h1⟩
    refine ⟨some a, l, cap, by rw [hll]; simpa using hcs, ⟨?_, fun s hs => ?_⟩, fun s hs => ?_, ?_, by omega⟩
    · intro j u hj
      obtain ⟨b, h1, h2⟩ := flat_at SC.cells 7 hf l j u hj
      obtain ⟨_, h3⟩ := hlq _ _ h1
      obtain ⟨_, _, h4⟩ := World.cells?_some h3
      have hlt : j % 7 < 7 := Nat.mod_lt _ (by decide)
      have h5 := h4 (j % 7) hlt
      rw [h2, add_add', Nat.mul_comm, Nat.div_add_mod] at h5
      refine ⟨a, rfl, ?_, h5⟩
      rw [← add_block a j]; exact World.block_lt_of_cell? _ _ h5
    · obtain ⟨i, hi', rfl⟩ := List.getElem_of_mem hs
      exact (hlq i _ (List.getElem?_eq_getElem hi')).1.1
    · obtain ⟨i, hi', rfl⟩ := List.getElem_of_mem hs
      exact (hlq i _ (List.getElem?_eq_getElem hi')).1.2
    · rw [hy, hll]
      have := bulk_len ((List.range len).map D)
      simp only [List.length_map, List.length_range] at this
      simp only [Rows.uptoBulk]
      omega
end
/-- The cells of the i-th step of a script. -/
theorem stp_get (l : List SC) : ∀ (i : Nat) (hi : i < l.length) (j : Nat) (u : Value), (l[i].cells)[j]? = some u → (l.flatMap SC.cells)[i * 7 + j]? = some u := by
  induction l with
  | nil => intro i hi; simp at hi
  | cons p l ih =>
    intro i hi j u hj
    cases i with
    | zero =>
      have hl := (List.getElem?_eq_some_iff.1 hj).1
      simp only [List.flatMap_cons, List.getElem_cons_zero, Nat.zero_mul, Nat.zero_add] at hj hl ⊢
      rw [List.getElem?_append_left hl]; exact hj
    | succ i =>
      simp only [List.flatMap_cons, List.getElem_cons_succ] at hj ⊢
      have hl : (SC.cells p).length = 7 := rfl
      rw [List.getElem?_append_right (by omega), hl, show (i + 1) * 7 + j - 7 = i * 7 + j by omega]
      exact ih i (by simpa using hi) j u hj
theorem Stp.below {w w' : World} {B : Nat} {A : Option Addr} {l : List SC} (h : Stp w B A l) (hb : Below B w w') : Stp w' B A l :=
  ⟨h.1.below hb, fun s hs => by obtain ⟨h1, h2, h3⟩ := h.2 s hs; exact ⟨h1.below hb, h2.below hb, h3⟩⟩
theorem Stp.step {w : World} {B : Nat} {A : Option Addr} {l : List SC} (h : Stp w B A l) {i : Nat} {s : SC} (hs : l[i]? = some s) : ∃ ad : Addr, A = some ad ∧ ad.block < B ∧ w.cell? (ad.add (i * 7)) = some (.int .i64 s.kind) ∧
    w.cell? ⟨(ad.add (i * 7)).block, (ad.add (i * 7)).off + 1, none⟩ = some (.string s.nm) ∧ w.cell? ⟨(ad.add (i * 7)).block, (ad.add (i * 7)).off + 2, none⟩ = some (.string s.to) ∧ w.cell? ⟨(ad.add (i * 7)).block, (ad.add (i * 7)).off + 3, none⟩ = some (.int .i64 s.x) ∧
    w.cell? ⟨(ad.add (i * 7)).block, (ad.add (i * 7)).off + 4, none⟩ = some (.int .i64 s.y) ∧ w.cell? ⟨(ad.add (i * 7)).block, (ad.add (i * 7)).off + 5, none⟩ = some (.slice s.A s.bs.length s.c) ∧ w.cell? ⟨(ad.add (i * 7)).block, (ad.add (i * 7)).off + 6, none⟩ = some (.slice s.A2 s.ps.length s.c2) ∧ s.Ok w B := by
  obtain ⟨hi, rfl⟩ := List.getElem?_eq_some_iff.1 hs
  have g := stp_get l i hi
  obtain ⟨ad, rfl, hb, c0⟩ := h.1 _ _ (g 0 _ rfl)
  refine ⟨ad, rfl, hb, c0, ?_, ?_, ?_, ?_, ?_, ?_, h.2 _ (List.getElem_mem hi)⟩
  · obtain ⟨a', e, _, c⟩ := h.1 _ _ (g 1 _ rfl); cases e; rw [← add_add'] at c; exact c
  · obtain ⟨a', e, _, c⟩ := h.1 _ _ (g 2 _ rfl); cases e; rw [← add_add'] at c; exact c
  · obtain ⟨a', e, _, c⟩ := h.1 _ _ (g 3 _ rfl); cases e; rw [← add_add'] at c; exact c
  · obtain ⟨a', e, _, c⟩ := h.1 _ _ (g 4 _ rfl); cases e; rw [← add_add'] at c; exact c
  · obtain ⟨a', e, _, c⟩ := h.1 _ _ (g 5 _ rfl); cases e; rw [← add_add'] at c; exact c
  · obtain ⟨a', e, _, c⟩ := h.1 _ _ (g 6 _ rfl); cases e; rw [← add_add'] at c; exact c
end Go.Proofs.Ytomkieennkobcaa
