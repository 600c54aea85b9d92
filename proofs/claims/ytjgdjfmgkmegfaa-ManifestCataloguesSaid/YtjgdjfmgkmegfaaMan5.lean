import Derived.Test.YtjgdjfmgkmegfaaMan4
namespace Go.Proofs.Ytjgdjfmgkmegfaa
open Go.RowKit Go.Maps

def okc (c : UInt8) : Bool := (decide (97 ≤ c.toNat) && decide (c.toNat ≤ 122)) || (decide (48 ≤ c.toNat) && decide (c.toNat ≤ 57)) || decide (c.toNat = 45)
theorem okc_iff (c : UInt8) : okc c = true ↔ ((97 ≤ (c.toNat : Int) ∧ (c.toNat : Int) ≤ 122) ∨ (48 ≤ (c.toNat : Int) ∧ (c.toNat : Int) ≤ 57)) ∨ (c.toNat : Int) = 45 := by
  simp only [okc, Bool.or_eq_true, Bool.and_eq_true, decide_eq_true_eq]; omega
def nameB (s : ByteArray) : Bool := decide (1 ≤ s.size) && decide (s.size ≤ 24) && s.data.toList.all okc
def nameE (s : ByteArray) : Int := if nameB s = true then 0 else 74
theorem nameE_short {s : ByteArray} (h : s.size < 1) : (74 : Int) = nameE s := by
  have : nameB s = false := by simp [nameB]; omega
  simp [nameE, this]
theorem nameE_long {s : ByteArray} (h : 24 < s.size) : (74 : Int) = nameE s := by
  have : nameB s = false := by simp [nameB]; omega
  simp [nameE, this]
theorem nameE_bad {s : ByteArray} {k : Nat} (hk : k < s.size) (h : okc s[k] = false) : (74 : Int) = nameE s := by
  have : s.data.toList.all okc = false := by
    rw [List.all_eq_false]
    exact ⟨s[k], by rw [Array.mem_toList_iff]; exact Array.getElem_mem (h := hk), by simp [h]⟩
  simp [nameE, nameB, this]
theorem nameE_good {s : ByteArray} (h0 : ¬ s.size < 1) (h1 : ¬ 24 < s.size) (h : ∀ j, (hj : j < s.size) → okc s[j] = true) : (0 : Int) = nameE s := by
  have : s.data.toList.all okc = true := by
    rw [List.all_eq_true]
    intro c hc
    obtain ⟨j, hj, rfl⟩ := List.getElem_of_mem hc
    exact h j (by simpa using hj)
  have : nameB s = true := by simp only [nameB, this, Bool.and_true, Bool.and_eq_true, decide_eq_true_eq]; omega
  simp [nameE, this]

set_option maxRecDepth 100000 in
set_option maxHeartbeats 1000000 in
theorem refCheckName_any (s : ByteArray) (w : World) :
    Calls Try.prog 18 #[.string s] w fun e w' => e = .returned (.int .i64 (nameE s)) ∧ w = w' := by
  by_cases h0 : s.size < 1
  · go_enter Try.func18, Try.ntmps18
    go_wp2
    go_ret
    exact ⟨ret_int (nameE_short h0), rfl⟩
  by_cases h1 : 24 < s.size
  · go_enter Try.func18, Try.ntmps18
    go_wp2
    go_ret
    exact ⟨ret_int (nameE_long h1), rfl⟩
  go_enter Try.func18, Try.ntmps18
  go_wp2
  go_loop [3] (fun i => ∃ k : Nat, k ≤ s.size ∧ i = .int .i64 k ∧ ∀ j, (hj : j < s.size) → j < k → okc s[j] = true) (fun i => s.size - (intOf i).toNat)
  case atStart => exact ⟨0, Nat.zero_le _, rfl, by intro j _ h; omega⟩
  case round =>
    obtain ⟨k, hk, rfl, hall⟩ := hrel
    have Hall := Lib.hid hall
    clear hall
    by_cases hlt : k < s.size
    · have hok := okc_iff s[k]
      have Hok := Lib.hid hok
      clear hok
      go_wp2
      all_goals first
        | (go_ret; exact ⟨ret_int (nameE_bad hlt (by rw [← Bool.not_eq_true, Hok.out]; simp at *; omega)), rfl⟩)
        | (go_round
           case rel =>
             refine ⟨k + 1, by omega, by go_num, fun j hj hjk => ?_⟩
             rcases Nat.lt_or_ge j k with h | h
             · exact Hall.out j hj h
             · obtain rfl : j = k := by omega
               rw [Hok.out]; (first | omega | (simp at *; omega))
           case measure => simp [intOf]; omega)
    · go_wp2
      go_ret
      exact ⟨ret_int (nameE_good h0 h1 (fun j hj => Hall.out j hj (by omega))), rfl⟩

set_option maxRecDepth 100000 in
set_option maxHeartbeats 1000000 in
theorem checkName_any (s : ByteArray) (w : World) :
    Calls Try.prog 17 #[.string s] w fun e w' => e = .returned (.int .i64 (nameE s)) ∧ Below w.heap.size w w' := by
  have hbi : ∀ p, Below w.heap.size w (w.iter s p) := fun p => (Below.refl _ _).alloc (Nat.le_refl _) _
  by_cases h0 : s.size < 1
  · go_enter Try.func17, Try.ntmps17
    go_wp2
    go_ret
    exact ⟨ret_int (nameE_short h0), Below.refl _ _⟩
  by_cases h1 : 24 < s.size
  · go_enter Try.func17, Try.ntmps17
    go_wp2
    go_ret
    exact ⟨ret_int (nameE_long h1), Below.refl _ _⟩
  have Hbi := Lib.hid hbi
  clear hbi
  go_enter Try.func17, Try.ntmps17
  go_wp2
  go_loopw [4, 5] (fun _ _ wr => ∃ k : Nat, k ≤ s.size ∧ wr = w.iter s k ∧ ∀ j, (hj : j < s.size) → j < k → okc s[j] = true) (fun _ _ wr => s.size - wr.iterPos w.heap.size)
  case atStart => exact ⟨0, Nat.zero_le _, rfl, by intro j _ h; omega⟩
  case round =>
    obtain ⟨k, hk, rfl, hall⟩ := hrel
    have Hall := Lib.hid hall
    clear hall
    by_cases hlt : k < s.size
    · have hok := okc_iff s[k]
      have Hok := Lib.hid hok
      clear hok
      by_cases ha : s[k].toNat < 128
      · have hn := fun ty => run_next_ascii (P := Try.prog) w s k ty hlt ha
        have hcw : ∀ p, (w.iter s p).iterPos w.heap.size = p := fun p => World.iterPos_iter w s p
        go_wp2
        all_goals first
          | (go_ret; exact ⟨ret_int (nameE_bad hlt (by rw [← Bool.not_eq_true, Hok.out]; simp at *; omega)), Hbi.out _⟩)
          | (go_roundw
             case rel =>
               refine ⟨k + 1, by omega, rfl, fun j hj hjk => ?_⟩
               rcases Nat.lt_or_ge j k with h | h
               · exact Hall.out j hj h
               · obtain rfl : j = k := by omega
                 rw [Hok.out]; (first | omega | (simp at *; omega))
             case measure => rw [hcw, hcw]; omega)
      · have hn := fun ty => run_next_any (P := Try.prog) w s k ty hlt
        have hh := (decode_high s k hlt (by omega)).1
        have hh2 := decode_le s k
        generalize (Utf8.decode s k).1 = r at hn hh hh2
        generalize k + (Utf8.decode s k).2 = k2 at hn
        go_wp2
        go_ret
        exact ⟨ret_int (nameE_bad hlt (by rw [← Bool.not_eq_true, Hok.out]; omega)), Hbi.out _⟩
    · have hn := fun ty => run_next_end (P := Try.prog) w s k ty hlt
      go_wp2
      go_ret
      exact ⟨ret_int (nameE_good h0 h1 (fun j hj => Hall.out j hj (by omega))), Hbi.out _⟩
end Go.Proofs.Ytjgdjfmgkmegfaa
