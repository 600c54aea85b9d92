import Derived.Test.YtnkhmebmgncjbaaRows
import Derived.Test.YtnkhmebmgncjbaaLib
namespace Go.Proofs.Ytnkhmebmgncjbaa
open Go.RowKit Go.Maps

/-- The order of texts, byte by byte: below 0, 0, above 0. -/
def cmpB : List UInt8 → List UInt8 → Int
  | [], [] => 0
  | [], _ :: _ => -1
  | _ :: _, [] => 1
  | x :: a, y :: b => if x.toNat < y.toNat then -1 else if y.toNat < x.toNat then 1 else cmpB a b
theorem cmpB_range : ∀ a b : List UInt8, cmpB a b = -1 ∨ cmpB a b = 0 ∨ cmpB a b = 1
  | [], [] => by simp [cmpB]
  | [], _ :: _ => by simp [cmpB]
  | _ :: _, [] => by simp [cmpB]
  | x :: a, y :: b => by
    simp only [cmpB]
    split
    · simp
    · split
      · simp
      · exact cmpB_range a b
theorem cmpB_self : ∀ a : List UInt8, cmpB a a = 0
  | [] => rfl
  | x :: a => by simp [cmpB, cmpB_self a]
theorem cmpB_eq : ∀ {a b : List UInt8}, cmpB a b = 0 → a = b
  | [], [], _ => rfl
  | [], _ :: _, h => by simp [cmpB] at h
  | _ :: _, [], h => by simp [cmpB] at h
  | x :: a, y :: b, h => by
    simp only [cmpB] at h
    split at h
    · simp at h
    · split at h
      · simp at h
      · have : x = y := UInt8.toNat_inj.1 (by omega)
        rw [this, cmpB_eq h]
theorem cmpB_less : ∀ a b : List UInt8, cmpB a b = -1 ↔ Op.bytesLess a b = true
  | [], [] => by simp [cmpB, Op.bytesLess]
  | [], _ :: _ => by simp [cmpB, Op.bytesLess]
  | _ :: _, [] => by simp [cmpB, Op.bytesLess]
  | x :: a, y :: b => by
    simp only [cmpB, Op.bytesLess, Bool.or_eq_true, Bool.and_eq_true, decide_eq_true_eq, beq_iff_eq, UInt8.lt_iff_toNat_lt]
    by_cases h1 : x.toNat < y.toNat
    · simp [h1]
    · by_cases h2 : y.toNat < x.toNat
      · have : x ≠ y := by rintro rfl; omega
        simp [h1, h2, this]
      · have : x = y := UInt8.toNat_inj.1 (by omega)
        subst this
        simp [h1, cmpB_less a b]
theorem cmpB_swap : ∀ a b : List UInt8, cmpB b a = - cmpB a b
  | [], [] => rfl
  | [], _ :: _ => rfl
  | _ :: _, [] => rfl
  | x :: a, y :: b => by
    simp only [cmpB]
    by_cases h1 : x.toNat < y.toNat
    · rw [if_neg (by omega), if_pos h1, if_pos h1]; rfl
    · by_cases h2 : y.toNat < x.toNat
      · rw [if_pos h2, if_neg h1, if_pos h2]
      · rw [if_neg h2, if_neg h1, if_neg h1, if_neg h2]; exact cmpB_swap a b
theorem cmpB_lt {a b : List UInt8} {k : Nat} (ha : k < a.length) (hb : k < b.length) (h : a[k].toNat < b[k].toNat) : cmpB (a.drop k) (b.drop k) = -1 := by
  rw [List.drop_eq_getElem_cons ha, List.drop_eq_getElem_cons hb, cmpB, if_pos h]
theorem cmpB_gt {a b : List UInt8} {k : Nat} (ha : k < a.length) (hb : k < b.length) (h : b[k].toNat < a[k].toNat) : cmpB (a.drop k) (b.drop k) = 1 := by
  rw [List.drop_eq_getElem_cons ha, List.drop_eq_getElem_cons hb, cmpB, if_neg (by omega), if_pos h]
theorem cmpB_next {a b : List UInt8} {k : Nat} (ha : k < a.length) (hb : k < b.length) (h : a[k].toNat = b[k].toNat) : cmpB (a.drop k) (b.drop k) = cmpB (a.drop (k + 1)) (b.drop (k + 1)) := by
  rw [List.drop_eq_getElem_cons ha, List.drop_eq_getElem_cons hb, cmpB, if_neg (by omega), if_neg (by omega)]
theorem cmpB_end {a b : List UInt8} {k : Nat} (h : min a.length b.length ≤ k) (hk : k ≤ a.length ∧ k ≤ b.length) : cmpB (a.drop k) (b.drop k) = min (max ((a.length : Int) - b.length) (-1)) 1 := by
  rcases Nat.lt_trichotomy a.length b.length with hl | hl | hl
  · have h1 : a.drop k = [] := List.drop_of_length_le (by omega)
    rw [h1, List.drop_eq_getElem_cons (by omega : k < b.length), cmpB]; omega
  · have h1 : a.drop k = [] := List.drop_of_length_le (by omega)
    have h2 : b.drop k = [] := List.drop_of_length_le (by omega)
    rw [h1, h2, cmpB]; omega
  · have h2 : b.drop k = [] := List.drop_of_length_le (by omega)
    rw [h2, List.drop_eq_getElem_cons (by omega : k < a.length), cmpB]; omega

set_option maxRecDepth 100000 in
set_option maxHeartbeats 1000000 in
theorem compareR (s t : ByteArray) (w : World) (hs : s.size ≤ maxLen) :
    Calls Try.prog 16 #[.string s, .string t] w fun e w' => e = .returned (.int .i64 (cmpB s.data.toList t.data.toList)) ∧ ∃ n, w' = w.drewN n := by
  unfold maxLen at hs
  go_enter Try.func16, Try.ntmps16
  go_wp2
  go_loopw [5] (fun i wr => ∃ (k n : Nat), k ≤ s.size ∧ k ≤ t.size ∧ i = .int .i64 k ∧ wr = w.drewN n ∧ cmpB s.data.toList t.data.toList = cmpB (s.data.toList.drop k) (t.data.toList.drop k)) (fun i _ => s.size - (intOf i).toNat)
  case atStart => exact ⟨0, 0, Nat.zero_le _, Nat.zero_le _, rfl, rfl, rfl⟩
  case round =>
    obtain ⟨k, n, hks, hkt, rfl, rfl, hc⟩ := hrel
    have Hc := Lib.hid hc
    clear hc
    by_cases hls : k < s.size
    · by_cases hlt' : k < t.size
      · have H1 := Lib.hid (cmpB_lt (a := s.data.toList) (b := t.data.toList) (k := k) (by simpa using hls) (by simpa using hlt'))
        have H2 := Lib.hid (cmpB_gt (a := s.data.toList) (b := t.data.toList) (k := k) (by simpa using hls) (by simpa using hlt'))
        have H3 := Lib.hid (cmpB_next (a := s.data.toList) (b := t.data.toList) (k := k) (by simpa using hls) (by simpa using hlt'))
        have hk0 : (0 : Int) ≤ k := by omega
        have hk1 : (k : Int) < s.size := by omega
        have hk2 : (k : Int) < t.size := by omega
        by_cases ha : s[k].toNat < t[k].toNat
        · have ha' : decide ((s[k].toNat : Int) < (t[k].toNat : Int)) = true := decide_eq_true (by omega)
          go_wp2
          go_quiet (fail)
          go_wp2
          go_ret
          exact ⟨ret_int (by rw [Hc.out, H1.out ha]), _, by simp only [World.drewN_drewN]; rfl⟩
        · by_cases hb : t[k].toNat < s[k].toNat
          · have ha' : decide ((s[k].toNat : Int) < (t[k].toNat : Int)) = false := decide_eq_false (by omega)
            have hb' : decide ((t[k].toNat : Int) < (s[k].toNat : Int)) = true := decide_eq_true (by omega)
            go_wp2
            go_quiet (fail)
            go_wp2
            go_quiet (fail)
            go_wp2
            go_ret
            exact ⟨ret_int (by rw [Hc.out, H2.out hb]), _, by simp only [World.drewN_drewN]; rfl⟩
          · have ha' : decide ((s[k].toNat : Int) < (t[k].toNat : Int)) = false := decide_eq_false (by omega)
            have hb' : decide ((t[k].toNat : Int) < (s[k].toNat : Int)) = false := decide_eq_false (by omega)
            go_wp2
            go_quiet (fail)
            go_wp2
            go_quiet (fail)
            go_wp2
            go_roundw
            case rel => exact ⟨k + 1, _, by omega, by omega, by go_num, rfl, by rw [Hc.out, H3.out (show s[k].toNat = t[k].toNat by omega)]⟩
            case measure => simp [intOf]; omega
      · have He := Lib.hid (cmpB_end (a := s.data.toList) (b := t.data.toList) (k := k) (by simp; omega) (by simp; omega))
        go_wp2
        all_goals
          go_ret
          refine ⟨ret_int (by rw [Hc.out, He.out]; simp; omega), _, rfl⟩
    · have He := Lib.hid (cmpB_end (a := s.data.toList) (b := t.data.toList) (k := k) (by simp; omega) (by simp; omega))
      go_wp2
      all_goals
        go_ret
        refine ⟨ret_int (by rw [Hc.out, He.out]; simp; omega), _, rfl⟩
end Go.Proofs.Ytnkhmebmgncjbaa
