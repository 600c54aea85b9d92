import Derived.Test.YtifimeohdgnehaaRd8
namespace Go.Proofs.Ytifimeohdgnehaa
open Go.RowKit Go.Maps

/-! Reading what was written. No program in sight. -/
theorem rdU_uvarF : ∀ (f i n : Nat) (r : List UInt8), f + i = 10 → n * 2 ^ (7 * i) < 18446744073709551616 → (0 < i → 0 < n) → rdU i (uvarF f n ++ r) = some (n, (uvarF f n).length)
  | 0, i, n, r, hf, hn, hp => by
    have : i = 10 := by omega
    subst this
    have := hp (by omega)
    have : 1 * 2 ^ 70 ≤ n * 2 ^ (7 * 10) := Nat.mul_le_mul this (by omega)
    omega
  | f + 1, i, n, r, hf, hn, hp => by
    have h9 : i = 9 → n ≤ 1 := fun e => by subst e; have : n * 2 ^ (7 * 9) < 2 * 2 ^ 63 := by simpa using hn
                                           have := Nat.lt_of_mul_lt_mul_right this; omega
    by_cases h : n < 128
    · have e : uvarF (f + 1) n = [UInt8.ofNat n] := by rw [uvarF, if_pos h]
      have et : (UInt8.ofNat n).toNat = n := by simp; omega
      rw [e, List.singleton_append, rdU, et]
      rw [if_neg (by rintro ⟨h1, h2⟩; have := h9 h1; have := hp (by omega); omega), if_neg (by rintro ⟨h1, h2⟩; have := hp h1; omega), if_pos h]
      rfl
    · have e : uvarF (f + 1) n = UInt8.ofNat (n % 128 + 128) :: uvarF f (n / 128) := by rw [uvarF, if_neg h]
      have hm : n % 128 < 128 := Nat.mod_lt _ (by omega)
      have et : (UInt8.ofNat (n % 128 + 128)).toNat = n % 128 + 128 := by simp; omega
      rw [e, List.cons_append, rdU, et]
      rw [if_neg (by rintro ⟨h1, h2⟩; have := h9 h1; omega), if_neg (by omega), if_neg (by omega)]
      have hn2 : n / 128 * 2 ^ (7 * (i + 1)) < 18446744073709551616 := by
        have e1 : (2 : Nat) ^ (7 * (i + 1)) = 128 * 2 ^ (7 * i) := by rw [show 7 * (i + 1) = 7 + 7 * i by omega, Nat.pow_add]
        rw [e1, ← Nat.mul_assoc]
        exact Nat.lt_of_le_of_lt (Nat.mul_le_mul_right _ (Nat.div_mul_le_self n 128)) hn
      rw [rdU_uvarF f (i + 1) (n / 128) r (by omega) hn2 (fun _ => by omega)]
      simp only [Option.map_some, List.length_cons]
      congr 2
      omega
theorem rdE_uvar (n : Nat) (r : List UInt8) (hn : n < 18446744073709551616) : rdE (uvar n ++ r) = some (n, (uvar n).length) :=
  rdU_uvarF 10 0 n r (by omega) (by simpa using hn) (by omega)
theorem uvS_canon {l r : List UInt8} {s : RSt} {n : Nat} (hf : s.fl = false) (hl : l.drop s.at_ = uvar n ++ r) (hn : n < 18446744073709551616) :
    (uvS l s).1 = n ∧ (uvS l s).2.fl = false ∧ l.drop (uvS l s).2.at_ = r := by
  obtain ⟨at_, fl⟩ := s
  simp only at hf hl
  subst hf
  have e : uvS l ⟨at_, false⟩ = (n, ⟨at_ + (uvar n).length, false⟩) := by
    unfold uvS
    rw [hl, rdE_uvar n r hn]
    rfl
  rw [e]
  refine ⟨rfl, rfl, ?_⟩
  show l.drop (at_ + (uvar n).length) = r
  rw [← List.drop_drop, hl, List.drop_left]
theorem txS_canon {l r : List UInt8} {s : RSt} {m : Nat} {t : ByteArray} (hf : s.fl = false) (hl : l.drop s.at_ = textB t ++ r) (hn : t.size ≤ m) (hm : m ≤ 1000000) :
    (txS m l s).1 = t.data.toList ∧ (txS m l s).2.fl = false ∧ l.drop (txS m l s).2.at_ = r := by
  obtain ⟨at_, fl⟩ := s
  simp only at hf hl
  subst hf
  have hz : t.data.toList.length = t.size := by rw [Array.length_toList, ByteArray.size_data]
  have h1 : l.drop at_ = uvar t.size ++ (t.data.toList ++ r) := by rw [hl, textB, List.append_assoc]
  have h2 : l.drop (at_ + (uvar t.size).length) = t.data.toList ++ r := by rw [← List.drop_drop, h1, List.drop_left]
  have h3 : t.size ≤ l.length - (at_ + (uvar t.size).length) := by
    have := congrArg List.length h2
    simp only [List.length_drop, List.length_append, hz] at this
    omega
  have e : txS m l ⟨at_, false⟩ = (t.data.toList, ⟨at_ + (uvar t.size).length + t.size, false⟩) := by
    have hok : t.size ≤ m ∧ t.size ≤ l.length - (at_ + (uvar t.size).length) := ⟨hn, h3⟩
    have e3 : (l.drop (at_ + (uvar t.size).length)).take t.size = t.data.toList := by rw [h2, ← hz, List.take_left]
    unfold txS
    simp only [Bool.false_eq_true, if_false]
    rw [h1, rdE_uvar _ _ (by omega)]
    simp only
    rw [if_pos hok, e3]
  rw [e]
  refine ⟨rfl, rfl, ?_⟩
  show l.drop (at_ + (uvar t.size).length + t.size) = r
  rw [← List.drop_drop, h2, ← hz, List.drop_left]
theorem uvS_grow {l : List UInt8} {s : RSt} (h : s.at_ < l.length) : s.at_ < (uvS l s).2.at_ ∨ s.fl = true := by
  unfold uvS
  split
  · rename_i e; exact .inr e
  · left
    split
    · rename_i v k hr
      have := rdE_bound hr
      simp only; omega
    · simpa using h
theorem uvar_pos (n : Nat) : 0 < (uvar n).length := by
  show 0 < (uvarF 10 n).length
  rw [uvarF]
  split <;> simp
end Go.Proofs.Ytifimeohdgnehaa
