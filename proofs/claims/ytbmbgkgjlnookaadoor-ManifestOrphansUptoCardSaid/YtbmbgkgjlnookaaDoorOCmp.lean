import Derived.Test.YtbmbgkgjlnookaaDoorRows
import Derived.Test.YtbmbgkgjlnookaaDoorLib
namespace Go.Proofs.YtbmbgkgjlnookaaDoor
open Go.RowKit Go.Maps

/-- The order of texts, byte by byte: below 0, 0, above 0. -/
def cmpB : List UInt8 → List UInt8 → Int
  | [], [] => 0
  | [], _ :: _ => -1
  | _ :: _, [] => 1
  | x :: a, y :: b => if x.toNat < y.toNat then -1 else if y.toNat < x.toNat then 1 else cmpB a b
theorem cmpB_range : ∀ a b : List UInt8, cmpB a b = -1 ∨ cmpB a b = 0 ∨ cmpB a b = 1
  | [], [] => by simp [cmpB]
  | [], _ :: _ => by simp [cmpB]
  | _ :: _, [] => by simp [cmpB]
  | x :: a, y :: b => by
    simp only [cmpB]
    split
    · simp
    · split
      · simp
      · exact cmpB_range a b
theorem cmpB_self : ∀ a : List UInt8, cmpB a a = 0
  | [] => rfl
  | x :: a => by simp [cmpB, cmpB_self a]
theorem cmpB_eq : ∀ {a b : List UInt8}, cmpB a b = 0 → a = b
  | [], [], _ => rfl
  | [], _ :: _, h => by simp [cmpB] at h
  | _ :: _, [], h => by simp [cmpB] at h
  | x :: a, y :: b, h => by
    simp only [cmpB] at h
    split at h
    · simp at h
    · split at h
      · simp at h
      · have : x = y := UInt8.toNat_inj.1 (by omega)
        rw [this, cmpB_eq h]
theorem cmpB_less : ∀ a b : List UInt8, cmpB a b = -1 ↔ Op.bytesLess a b = true
  | [], [] => by simp [cmpB, Op.bytesLess]
  | [], _ :: _ => by simp [cmpB, Op.bytesLess]
  | _ :: _, [] => by simp [cmpB, Op.bytesLess]
  | x :: a, y :: b => by
    simp only [cmpB, Op.bytesLess, Bool.or_eq_true, Bool.and_eq_true, decide_eq_true_eq, beq_iff_eq, UInt8.lt_iff_toNat_lt]
    by_cases h1 : x.toNat < y.toNat
    · simp [h1]
    · by_cases h2 : y.toNat < x.toNat
      · have : x ≠ y := by rintro rfl; omega
        simp [h1, h2, this]
      · have : x = y := UInt8.toNat_inj.1 (by omega)
        subst this
        simp [h1, cmpB_less a b]
theorem cmpB_swap : ∀ a b : List UInt8, cmpB b a = - cmpB a b
  | [], [] => rfl
  | [], _ :: _ => rfl
  | _ :: _, [] => rfl
  | x :: a, y :: b => by
    simp only [cmpB]
    by_cases h1 : x.toNat < y.toNat
    · rw [if_neg (by omega), if_pos h1, if_pos h1]; rfl
    · by_cases h2 : y.toNat < x.toNat
      · rw [if_pos h2, if_neg h1, if_pos h2]
      · rw [if_neg h2, if_neg h1, if_neg h1, if_neg h2]; exact cmpB_swap a b
theorem cmpB_lt {a b : List UInt8} {k : Nat} (ha : k < a.length) (hb : k < b.length) (h : a[k].toNat < b[k].toNat) : cmpB (a.drop k) (b.drop k) = -1 := by
  rw [List.drop_eq_getElem_cons ha, List.drop_eq_getElem_cons hb, cmpB, if_pos h]
theorem cmpB_gt {a b : List UInt8} {k : Nat} (ha : k < a.length) (hb : k < b.length) (h : b[k].toNat < a[k].toNat) : cmpB (a.drop k) (b.drop k) = 1 := by
  rw [List.drop_eq_getElem_cons ha, List.drop_eq_getElem_cons hb, cmpB, if_neg (by omega), if_pos h]
theorem cmpB_next {a b : List UInt8} {k : Nat} (ha : k < a.length) (hb : k < b.length) (h : a[k].toNat = b[k].toNat) : cmpB (a.drop k) (b.drop k) = cmpB (a.drop (k + 1)) (b.drop (k + 1)) := by
  rw [List.drop_eq_getElem_cons ha, List.drop_eq_getElem_cons hb, cmpB, if_neg (by omega), if_neg (by omega)]
theorem cmpB_end {a b : List UInt8} {k : Nat} (h : min a.length b.length ≤ k) (hk : k ≤ a.length ∧ k ≤ b.length) : cmpB (a.drop k) (b.drop k) = min (max ((a.length : Int) - b.length) (-1)) 1 := by
  rcases Nat.lt_trichotomy a.length b.length with hl | hl | hl
  · have h1 : a.drop k = [] := List.drop_of_length_le (by omega)
    rw [h1, List.drop_eq_getElem_cons (by omega : k < b.length), cmpB]; omega
  · have h1 : a.drop k = [] := List.drop_of_length_le (by omega)
    have h2 : b.drop k = [] := List.drop_of_length_le (by omega)
    rw [h1, h2, cmpB]; omega
  · have h2 : b.drop k = [] := List.drop_of_length_le (by omega)
    rw [h2, List.drop_eq_getElem_cons (by omega : k < a.length), cmpB]; omega

end Go.Proofs.YtbmbgkgjlnookaaDoor
