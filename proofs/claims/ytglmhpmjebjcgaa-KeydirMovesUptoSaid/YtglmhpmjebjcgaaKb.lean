import Derived.Test.YtglmhpmjebjcgaaKa
import Derived.ProofKit
import Derived.ShutString
import Derived.ChangeOld
import Derived.SizedLaws
import Derived.Deep.Slices
import Derived.Deep.Fields
import Derived.ChangeSame
/-
  An argument opened: structs of one-cell fields, slices of ints, slices of structs; the bound on a slice's length. No program in sight.
-/
namespace Go.Proofs.Ytglmhpmjebjcgaa
open Go.RowKit Go.ChangeShapes Go.WideShapes Go.ChangeAt Go.Deep

section
variable {H : Type} {enc : TypeId × Value → H} {P : Program} {w : World} {n : Nat} {t e : TypeId} {c : Value} {y : DataW H × List MemPlace}
abbrev TRo (enc : TypeId × Value → H) (P : Program) (w : World) (n : Nat) (t : TypeId) (cs : List Value) (y : DataW H × List MemPlace) : Prop := DataW.trod enc P w 0 (fun _ => true) true n t cs = some y

theorem op_int {k : IntKind} (ht : P.underlying t = some (.int k)) (h : TRo enc P w n t [c] y) : ∃ x, c = .int k x ∧ y = (.lit (.int k x), []) ∧ (Lit.int k x).wf = true := by
  obtain ⟨x, h1, h2, h3⟩ := DataW.trod_int ht h
  exact ⟨x, by simpa using h1, h2, h3⟩
theorem op_bool (ht : P.underlying t = some .bool) (h : TRo enc P w n t [c] y) : ∃ x, c = .bool x ∧ y = (.lit (.bool x), []) := by
  obtain ⟨x, h1, h2⟩ := DataW.trod_bool ht h
  exact ⟨x, by simpa using h1, h2⟩
theorem op_string (ht : P.underlying t = some .string) (h : TRo enc P w n t [c] y) : ∃ s, c = .string s ∧ y = (.lit (.string s.data.toList), []) ∧ s.size ≤ maxLen := by
  obtain ⟨x, h1, h2, h3⟩ := DataW.trod_string ht h
  exact ⟨x, by simpa using h1, h2, h3⟩

theorem op_ints {k : IntKind} (ht : P.underlying t = some (.slice e)) (he : P.underlying e = some (.int k)) (hc : P.cellsOf e = 1) (h : TRo enc P w n t [c] y) :
    ∃ (A : Option Addr) (l : List Int) (cap : Nat), c = .slice A l.length cap ∧ Rd w w.heap.size A (l.map (.int k)) ∧ (∀ x ∈ l, (Lit.int k x).wf = true) ∧ ((y.1 = .nil ∧ l = []) ∨ ∃ el sp, y.1 = .slice el sp ∧ el.length = l.length) ∧ l.length ≤ maxLen := by
  rcases open_ints ht he hc h with ⟨hcs, hy⟩ | ⟨a, len, cap, zs, hcs, _, hl, hm, hz, hy, hcell, hw⟩
  · refine ⟨none, [], 0, by simpa using hcs, Rd.nil _ _ _, by simp, .inl ⟨by rw [hy], rfl⟩, Nat.zero_le _⟩
  · have hz' : zs.length = cap := by simpa using hz
    have hlen : (zs.take len).length = len := by simp; omega
    refine ⟨some a, zs.take len, cap, by rw [hlen]; simpa using hcs, ?_, fun x hx => hw x (List.mem_of_mem_take hx), .inr ⟨lits k (zs.take len), lits k (zs.drop len), by rw [hy], by simp [lits]⟩, by rw [hlen]; omega⟩
    intro j u hj
    obtain ⟨hj1, hj2⟩ := List.getElem?_eq_some_iff.1 hj
    have hjl : j < zs.length := by simp at hj1; omega
    have hc := hcell j hjl
    refine ⟨a, rfl, ?_, ?_⟩
    · rw [← add_block a j]; exact World.block_lt_of_cell? _ _ hc
    · rw [hc, ← hj2]; simp [List.getD_eq_getElem?_getD, List.getElem?_eq_getElem hjl]

theorem list_choice {α : Type} {Q : Nat → α → Prop} : ∀ (n : Nat), (∀ i, i < n → ∃ x, Q i x) → ∃ l : List α, l.length = n ∧ ∀ i x, l[i]? = some x → Q i x
  | 0, _ => ⟨[], rfl, by simp⟩
  | n + 1, h => by
    obtain ⟨l, hl, hq⟩ := list_choice n fun i hi => h i (by omega)
    obtain ⟨x, hx⟩ := h n (by omega)
    refine ⟨l ++ [x], by simp [hl], fun i y hy => ?_⟩
    rcases Nat.lt_or_ge i n with hi | hi
    · rw [List.getElem?_append_left (by omega)] at hy; exact hq i y hy
    · rw [List.getElem?_append_right (by omega)] at hy
      have : i = n := by
        have := (List.getElem?_eq_some_iff.1 hy).1
        simp at this; omega
      subst this
      simp [hl] at hy
      subst hy; exact hx

theorem flat_at {α : Type} (f : α → List Value) (m : Nat) (hf : ∀ a, (f a).length = m) (l : List α) (j : Nat) (u : Value) (h : (l.flatMap f)[j]? = some u) : ∃ a, l[j / m]? = some a ∧ (f a)[j % m]? = some u := by
  induction l generalizing j with
  | nil => simp at h
  | cons a l ih =>
    rw [List.flatMap_cons] at h
    rcases Nat.lt_or_ge j m with hj | hj
    · rw [List.getElem?_append_left (by rw [hf]; exact hj)] at h
      exact ⟨a, by rw [Nat.div_eq_of_lt hj]; rfl, by rw [Nat.mod_eq_of_lt hj]; exact h⟩
    · rw [List.getElem?_append_right (by rw [hf]; exact hj), hf] at h
      obtain ⟨b, h1, h2⟩ := ih (j - m) h
      have hm : 0 < m := by
        rcases Nat.eq_zero_or_pos m with h0 | h0
        · have := (List.getElem?_eq_some_iff.1 h2).1
          rw [hf] at this; omega
        · exact h0
      rw [Nat.div_eq_sub_div hm hj, Nat.mod_eq_sub_mod hj]
      exact ⟨b, by simpa using h1, h2⟩

/-- A slice of structs: each element's cells are those of some a. -/
theorem op_structs {α : Type} (f : α → List Value) (Good : α → Prop) (m : Nat) (hf : ∀ a, (f a).length = m) (ht : P.underlying t = some (.slice e)) (hc : P.cellsOf e = m)
    (hel : ∀ (n : Nat) (cs : List Value) (y : DataW H × List MemPlace), TRo enc P w n e cs y → ∃ a, cs = f a ∧ Good a) (h : TRo enc P w n t [c] y) :
    ∃ (A : Option Addr) (l : List α) (cap : Nat), c = .slice A l.length cap ∧ Rd w w.heap.size A (l.flatMap f) ∧ (∀ a ∈ l, Good a) ∧ ((y.1 = .nil ∧ l = []) ∨ ∃ el sp, y.1 = .slice el sp ∧ el.length = l.length) ∧ l.length ≤ maxLen := by
  rcases open_slice ht h with ⟨hcs, hy⟩ | ⟨a, len, cap, q, n', D, Pl, hcs, _, hl, hm, hq, hy, hi⟩
  · exact ⟨none, [], 0, by simpa using hcs, Rd.nil _ _ _, by simp, .inl ⟨by rw [hy], rfl⟩, Nat.zero_le _⟩
  · have hq' : q = cap := by simpa using hq
    rw [hc] at hi
    obtain ⟨l, hll, hlq⟩ := list_choice (Q := fun i (b : α) => Good b ∧ w.cells? 0 (a.add (i * m)) m = some (f b)) len fun i hlt => by
      obtain ⟨cs', h1, h2⟩ := hi i (by omega)
      obtain ⟨b, rfl, hg⟩ := hel _ _ _ h2
      exact ⟨b, hg, h1⟩
    refine ⟨some a, l, cap, by rw [hll]; simpa using hcs, ?_, ?_, .inr ⟨_, _, by rw [hy], by simp [hll]⟩, by omega⟩
    · intro j u hj
      obtain ⟨b, h1, h2⟩ := flat_at f m hf l j u hj
      obtain ⟨_, h3⟩ := hlq _ _ h1
      obtain ⟨_, _, h4⟩ := World.cells?_some h3
      have hlt : j % m < m := by have := (List.getElem?_eq_some_iff.1 h2).1; rwa [hf] at this
      have h5 := h4 (j % m) hlt
      rw [h2, add_add', Nat.mul_comm, Nat.div_add_mod] at h5
      refine ⟨a, rfl, ?_, h5⟩
      rw [← add_block a j]; exact World.block_lt_of_cell? _ _ h5
    · intro b hb
      obtain ⟨i, hi', rfl⟩ := List.getElem_of_mem hb
      exact (hlq i _ (List.getElem?_eq_getElem hi')).1

/-- A struct of one-cell fields, cell by cell. -/
theorem op_fields {fs : Array Field} {cs : List Value} (he : P.underlying t = some (.struct fs)) (hone : oneCellFields P fs = true) (hC : P.cellsOf t = fs.size) (h : TRo enc P w n t cs y) :
    cs.length = fs.size ∧ ∃ (ys : List (DataW H × List MemPlace)) (n' : Nat), y.1 = .agg (ys.map (·.1)) ∧ ys.length = fs.size ∧
      ∀ (j : Nat) (f : Field), fs[j]? = some f → ∃ (v : Value) (z : DataW H × List MemPlace), cs[j]? = some v ∧ ys[j]? = some z ∧ TRo enc P w n' f.type [v] z := by
  obtain ⟨ys, n', hn', hy, hlen, hyl, hf⟩ := DataW.trod_struct he h
  refine ⟨hlen.trans hC, ys, n', by rw [hy], hyl, fun j f hj => ?_⟩
  obtain ⟨ho, hk⟩ := hone_of hone j f hj
  have hjl : j < fs.size := (Array.getElem?_eq_some_iff.1 hj).1
  have h1 := hf j f hj
  rw [ho, hk] at h1
  have hjc : j < cs.length := by omega
  have hone' : (cs.drop j).take 1 = [cs[j]] := by rw [List.drop_eq_getElem_cons hjc]; rfl
  rw [hone'] at h1
  have hys : ys[j]? = some (ys[j]'(by omega)) := List.getElem?_eq_getElem (by omega)
  exact ⟨_, _, List.getElem?_eq_getElem hjc, hys, h1.trans hys⟩
end

/-- The bound on a slice's length, for a slice that is the argument's j-th field. -/
theorem weigh_field {H : Type} {P : Program} {ts : List TypeId} {ds : List (DataW H)} (h : (DataW.weightsEach P ts ds).all (· ≤ reachBytes) = true) {i : Nat} {t : TypeId} {parts : List (DataW H)} {fs : Array Field} (ht : ts[i]? = some t) (hd : ds[i]? = some (.agg parts))
    (hu : P.underlying t = some (.struct fs)) {j : Nat} {f : Field} {e : TypeId} (hj : fs[j]? = some f) (he : P.underlying f.type = some (.slice e)) {el sp : List (DataW H)} (hp : parts[j]? = some (.slice el sp)) :
    el.length * P.bytesOf e ≤ 140737488351232 := by
  have h1 : ∀ n ∈ DataW.weightsEach P (fs.toList.map (·.type)) parts, n ≤ reachBytes := fun n hn => by
    simpa using List.all_eq_true.1 h n (DataW.weights_mem_each ht hd n (by simp only [DataW.weights, hu]; exact hn))
  have h2 := h1 _ (DataW.weights_mem_each (j := j) (t := f.type) (by simpa using ⟨f, hj, rfl⟩) hp ((el.length + sp.length) * P.bytesOf e) (by simp [DataW.weights, he]))
  have : el.length * P.bytesOf e ≤ (el.length + sp.length) * P.bytesOf e := Nat.mul_le_mul_right _ (by omega)
  unfold reachBytes at h2
  omega
end Go.Proofs.Ytglmhpmjebjcgaa
