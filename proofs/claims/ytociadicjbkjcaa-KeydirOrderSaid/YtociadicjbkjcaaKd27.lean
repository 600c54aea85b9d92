import Derived.Test.YtociadicjbkjcaaKd26
import Derived.Laws.RangeAny
import Derived.Laws.IdiomStrings
/- octet.After: the least text above all that begin with a prefix. -/
namespace Go.Proofs.Ytociadicjbkjcaa
open Go.RowKit Go.Maps

/-- Within a letter of more than one byte there is no byte of 255. -/
theorem dec_cont (s : ByteArray) (pos : Nat) (h : pos < s.size) : 1 ≤ (Utf8.decode s pos).2 ∧ pos + (Utf8.decode s pos).2 ≤ s.size ∧ ∀ k, 1 ≤ k → k < (Utf8.decode s pos).2 → (s.get! (pos + k)).toNat / 64 = 2 := by
  have hd : ∀ d : Nat × Nat, d = Utf8.decode s pos → 1 ≤ d.2 ∧ pos + d.2 ≤ s.size ∧ ∀ k, 1 ≤ k → k < d.2 → (s.get! (pos + k)).toNat / 64 = 2 := by
    intro d hd
    simp only [Utf8.decode] at hd
    split at hd
    · subst hd; exact ⟨Nat.le_refl _, h, fun k h1 h2 => by have h2' : k < 1 := h2; omega⟩
    · split at hd
      · rename_i hc
        simp only [Bool.and_eq_true, decide_eq_true_eq, beq_iff_eq] at hc
        split at hd
        · subst hd
          refine ⟨by show 1 ≤ 2; omega, by show pos + 2 ≤ s.size; omega, fun k h1 h2 => ?_⟩
          have h2' : k < 2 := h2
          obtain rfl : k = 1 := by omega
          exact hc.2.2
        · subst hd; exact ⟨Nat.le_refl _, h, fun k h1 h2 => by have h2' : k < 1 := h2; omega⟩
      · split at hd
        · rename_i hc
          simp only [Bool.and_eq_true, decide_eq_true_eq, beq_iff_eq] at hc
          split at hd
          · subst hd
            refine ⟨by show 1 ≤ 3; omega, by show pos + 3 ≤ s.size; omega, fun k h1 h2 => ?_⟩
            have h2' : k < 3 := h2
            rcases (show k = 1 ∨ k = 2 by omega) with rfl | rfl
            · exact hc.1.2.2
            · exact hc.2.2
          · subst hd; exact ⟨Nat.le_refl _, h, fun k h1 h2 => by have h2' : k < 1 := h2; omega⟩
        · split at hd
          · rename_i hc
            simp only [Bool.and_eq_true, decide_eq_true_eq, beq_iff_eq] at hc
            split at hd
            · subst hd
              refine ⟨by show 1 ≤ 4; omega, by show pos + 4 ≤ s.size; omega, fun k h1 h2 => ?_⟩
              have h2' : k < 4 := h2
              rcases (show k = 1 ∨ k = 2 ∨ k = 3 by omega) with rfl | rfl | rfl
              · exact hc.1.1.2.2
              · exact hc.1.2.2
              · exact hc.2.2
            · subst hd; exact ⟨Nat.le_refl _, h, fun k h1 h2 => by have h2' : k < 1 := h2; omega⟩
          · subst hd; exact ⟨Nat.le_refl _, h, fun k h1 h2 => by have h2' : k < 1 := h2; omega⟩
  exact hd _ rfl

/-- What the loop of After knows of the bytes ahead of pos. -/
def AInv (p : ByteArray) (pos : Nat) (last : Int) : Prop :=
  (last = -1 ∨ ∃ j : Nat, last = j ∧ j + 1 < p.size ∧ (p.get! j).toNat ≠ 255) ∧ ∀ j : Nat, last < j → j + 1 < pos → (p.get! j).toNat ≠ 255 → (p.get! (j + 1)).toNat ≠ 255
theorem AInv.start (p : ByteArray) : AInv p 0 (-1) := ⟨.inl rfl, fun j _ h => by omega⟩
theorem AInv.miss {p : ByteArray} {pos : Nat} {last : Int} (h : AInv p pos last) (hp : pos < p.size) (h0 : pos = 0 ∨ ∃ m, pos = m + 1 ∧ (p.get! m).toNat = 255) : AInv p (pos + (Utf8.decode p pos).2) last := by
  obtain ⟨h1, h2⟩ := h
  obtain ⟨d1, d2, d3⟩ := dec_cont p pos hp
  refine ⟨h1, fun j hj hl hn => ?_⟩
  by_cases hlt : j + 1 < pos
  · exact h2 j hj hlt hn
  · by_cases he : j + 1 = pos
    · rcases h0 with h0 | ⟨m, hm, hm2⟩
      · omega
      · obtain rfl : m = j := by omega
        exact absurd hm2 hn
    · have := d3 (j + 1 - pos) (by omega) (by omega)
      rw [show pos + (j + 1 - pos) = j + 1 by omega] at this
      omega
theorem AInv.hit {p : ByteArray} {m : Nat} (hp : m + 1 < p.size) (hm : (p.get! m).toNat ≠ 255) : AInv p (m + 1 + (Utf8.decode p (m + 1)).2) (m : Int) := by
  obtain ⟨d1, d2, d3⟩ := dec_cont p (m + 1) hp
  refine ⟨.inr ⟨m, rfl, hp, hm⟩, fun j hj hl hn => ?_⟩
  have := d3 (j + 1 - (m + 1)) (by omega) (by omega)
  rw [show m + 1 + (j + 1 - (m + 1)) = j + 1 by omega] at this
  omega
/-- The last byte that is not 255. -/
def ALast (p : ByteArray) (last : Int) : Prop := (last = -1 ∨ ∃ j : Nat, last = j ∧ j < p.size ∧ (p.get! j).toNat ≠ 255) ∧ ∀ j : Nat, last < j → j < p.size → (p.get! j).toNat = 255
theorem AInv.fin {p : ByteArray} {last : Int} (h : AInv p p.size last) (h0 : p.size = 0 ∨ ∃ m, p.size = m + 1 ∧ (p.get! m).toNat = 255) : ALast p last := by
  obtain ⟨h1, h2⟩ := h
  refine ⟨?_, fun j hj hl => ?_⟩
  · rcases h1 with h1 | ⟨j, e, h1, h3⟩
    · exact .inl h1
    · exact .inr ⟨j, e, by omega, h3⟩
  · rcases h0 with h0 | ⟨m, hm, hm2⟩
    · omega
    · refine Classical.byContradiction fun hn => ?_
      have hall : ∀ d, j + d ≤ m → (p.get! (j + d)).toNat ≠ 255 := by
        intro d
        induction d with
        | zero => intro _; exact hn
        | succ d ih => intro hd; exact h2 (j + d) (by omega) (by omega) (ih (by omega))
      have := hall (m - j) (by omega)
      rw [show j + (m - j) = m by omega] at this
      exact this hm2
theorem ALast.top {p : ByteArray} {m : Nat} (hs : p.size = m + 1) (hm : (p.get! m).toNat ≠ 255) : ALast p (m : Int) := ⟨.inr ⟨m, rfl, by omega, hm⟩, fun j h1 h2 => by omega⟩

/-- What After answers. -/
def AftR (p : ByteArray) (e : Ending) : Prop :=
  (e = .returned (.tuple #[.string ⟨#[]⟩, .bool false]) ∧ ∀ b ∈ p.data.toList, b = 255) ∨
  ∃ (q : List UInt8) (c : UInt8) (m : Nat) (hi : ByteArray), e = .returned (.tuple #[.string hi, .bool true]) ∧ p.data.toList = q ++ c :: List.replicate m 255 ∧ c ≠ 255 ∧ hi.data.toList = q ++ [c + 1]

theorem get_str (p : ByteArray) (k : Nat) (h : k < p.size) : p.get! k = p[k] := by
  simp [ByteArray.get!, getElem!_pos, h]
  rfl
theorem get_list (p : ByteArray) (k : Nat) (h : k < p.size) : p.data.toList[k]'(by simpa using h) = p.get! k := by
  rw [get_str p k h]
  rfl
theorem u255 (c : UInt8) : c.toNat = 255 ↔ c = 255 := ⟨fun h => UInt8.toNat_inj.1 (by rw [h]; rfl), fun h => by rw [h]; rfl⟩
theorem ALast.none_ {p : ByteArray} (h : ALast p (-1)) : ∀ b ∈ p.data.toList, b = 255 := by
  intro b hb
  obtain ⟨i, hi, he⟩ := List.getElem_of_mem hb
  have hi' : i < p.size := by simpa using hi
  have := h.2 i (by omega) hi'
  rw [← get_list p i hi', he] at this
  exact (u255 b).1 this
theorem ALast.some_ {p : ByteArray} {j : Nat} (h : ALast p (j : Int)) : ∃ hj : j < p.size, p[j] ≠ 255 ∧ p.data.toList = p.data.toList.take j ++ p[j] :: List.replicate (p.size - (j + 1)) 255 := by
  obtain ⟨h1, h2⟩ := h
  rcases h1 with h1 | ⟨j', e, h3, h4⟩
  · omega
  · obtain rfl : j = j' := by omega
    refine ⟨h3, fun hc => h4 ?_, ?_⟩
    · rw [get_str p j h3, hc]; rfl
    · have hl : j < p.data.toList.length := by simpa using h3
      have e1 : p.data.toList = p.data.toList.take j ++ p.data.toList[j] :: p.data.toList.drop (j + 1) := by rw [← List.drop_eq_getElem_cons hl, List.take_append_drop]
      have e2 : p.data.toList.drop (j + 1) = List.replicate (p.size - (j + 1)) 255 := by
        refine List.eq_replicate_iff.2 ⟨by simp, fun b hb => ?_⟩
        obtain ⟨i, hi, he⟩ := List.getElem_of_mem hb
        rw [List.getElem_drop] at he
        have hi' : j + 1 + i < p.size := by rw [List.length_drop] at hi; have : p.data.toList.length = p.size := by simp
                                            omega
        have := h2 (j + 1 + i) (by omega) hi'
        rw [← get_list p _ hi', he] at this
        exact (u255 b).1 this
      rw [e2] at e1
      exact e1
end Go.Proofs.Ytociadicjbkjcaa
