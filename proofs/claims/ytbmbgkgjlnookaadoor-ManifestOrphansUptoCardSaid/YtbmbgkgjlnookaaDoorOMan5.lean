import Derived.Test.YtbmbgkgjlnookaaDoorOMan4
namespace Go.Proofs.YtbmbgkgjlnookaaDoor
open Go.RowKit Go.Maps

def okc (c : UInt8) : Bool := (decide (97 ≤ c.toNat) && decide (c.toNat ≤ 122)) || (decide (48 ≤ c.toNat) && decide (c.toNat ≤ 57)) || decide (c.toNat = 45)
theorem okc_iff (c : UInt8) : okc c = true ↔ ((97 ≤ (c.toNat : Int) ∧ (c.toNat : Int) ≤ 122) ∨ (48 ≤ (c.toNat : Int) ∧ (c.toNat : Int) ≤ 57)) ∨ (c.toNat : Int) = 45 := by
  simp only [okc, Bool.or_eq_true, Bool.and_eq_true, decide_eq_true_eq]; omega
def nameB (s : ByteArray) : Bool := decide (1 ≤ s.size) && decide (s.size ≤ 24) && s.data.toList.all okc
def nameE (s : ByteArray) : Int := if nameB s = true then 0 else 74
theorem nameE_short {s : ByteArray} (h : s.size < 1) : (74 : Int) = nameE s := by
  have : nameB s = false := by simp [nameB]; omega
  simp [nameE, this]
theorem nameE_long {s : ByteArray} (h : 24 < s.size) : (74 : Int) = nameE s := by
  have : nameB s = false := by simp [nameB]; omega
  simp [nameE, this]
theorem nameE_bad {s : ByteArray} {k : Nat} (hk : k < s.size) (h : okc s[k] = false) : (74 : Int) = nameE s := by
  have : s.data.toList.all okc = false := by
    rw [List.all_eq_false]
    exact ⟨s[k], by rw [Array.mem_toList_iff]; exact Array.getElem_mem (h := hk), by simp [h]⟩
  simp [nameE, nameB, this]
theorem nameE_good {s : ByteArray} (h0 : ¬ s.size < 1) (h1 : ¬ 24 < s.size) (h : ∀ j, (hj : j < s.size) → okc s[j] = true) : (0 : Int) = nameE s := by
  have : s.data.toList.all okc = true := by
    rw [List.all_eq_true]
    intro c hc
    obtain ⟨j, hj, rfl⟩ := List.getElem_of_mem hc
    exact h j (by simpa using hj)
  have : nameB s = true := by simp only [nameB, this, Bool.and_true, Bool.and_eq_true, decide_eq_true_eq]; omega
  simp [nameE, this]

end Go.Proofs.YtbmbgkgjlnookaaDoor
