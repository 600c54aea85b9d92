import Derived.Test.YtifimeohdgnehaaRd9
namespace Go.Proofs.Ytifimeohdgnehaa
open Go.RowKit Go.Maps

theorem take_ne {a b : List UInt8} {k : Nat} (ha : k < a.length) (hb : k < b.length) (h : a[k] ≠ b[k]) : a ≠ b := by
  rintro rfl; exact h rfl
theorem eq_of_all {a b : List UInt8} (hl : a.length = b.length) (h : ∀ j (ha : j < a.length) (hb : j < b.length), a[j] = b[j]) : a = b :=
  List.ext_getElem hl h

set_option maxRecDepth 100000 in
set_option maxHeartbeats 4000000 in
theorem octEqual (A B : Option Addr) (n m c d : Nat) (a b : List UInt8) (w : World) (ha : a.length = n) (hb : b.length = m) (hA : Rd w w.heap.size A (bv a)) (hB : Rd w w.heap.size B (bv b)) (hn : n ≤ 140737488355328) (hm : m ≤ 140737488355328) :
    Calls Try.prog 39 #[.slice A n c, .slice B m d] w fun e w' => e = .returned (.bool (decide (a = b))) ∧ Below w.heap.size w w' := by
  have Ha := Lib.hid ha
  have Hb := Lib.hid hb
  by_cases hnm : n = m
  case neg =>
    have HD : Hid (decide (a = b) = false) := by
      show decide (a = b) = false
      simp; rintro rfl; omega
    have h1 : ((n : Int) != (m : Int)) = true := by simp; omega
    have h2 : (n != m) = true := by simp; omega
    clear ha hb hnm
    go_enter Try.func39, Try.ntmps39
    go_wp2
    go_ret
    rw [HD.out]
    exact ⟨rfl, Below.refl _ _⟩
  subst hnm
  clear ha hb
  go_enter Try.func39, Try.ntmps39
  go_wp2
  go_loopw [13] (fun i wr => ∃ (k : Nat), k ≤ n ∧ i = .int .i64 k ∧ Below w.heap.size w wr ∧ ∀ j (ha : j < a.length) (hb : j < b.length), j < k → a[j] = b[j])
    (fun i _ => n - (intOf i).toNat)
  case atStart => exact ⟨0, Nat.zero_le _, rfl, Below.refl _ _, fun j _ _ h => absurd h (by omega)⟩
  case round =>
    obtain ⟨k, hk, rfl, hbl, hall⟩ := hrel
    have Hall := Lib.hid hall
    clear hall
    by_cases hlt : k < n
    · have hk0 : (0 : Int) ≤ k := by omega
      have hk1 : (k : Int) < n := by omega
      have hka : k < a.length := by rw [Ha.out]; exact hlt
      have hkb : k < b.length := by rw [Hb.out]; exact hlt
      obtain ⟨ad, rfl, had, p0⟩ := (hA.below hbl) k (.int .u8 a[k].toNat) (by simp [bv, hka])
      obtain ⟨ad', rfl, had', q0⟩ := (hB.below hbl) k (.int .u8 b[k].toNat) (by simp [bv, hkb])
      have H := Lib.hid hbl
      clear hbl
      by_cases he : a[k] = b[k]
      · have He := Lib.hid he
        rw [← he] at q0
        clear he
        generalize a[k].toNat = x at p0 q0
        go_wp2
        go_quiet (fail)
        go_wp2
        go_roundw
        case rel =>
          exact ⟨k + 1, by omega, by go_num, below_drewN H.out _, fun j h1 h2 h3 => by
            by_cases hj : j = k
            · subst hj; exact He.out
            · exact Hall.out j h1 h2 (by omega)⟩
        case measure => simp [intOf]; omega
      · have HD : Hid (decide (a = b) = false) := decide_eq_false (take_ne hka hkb he)
        have hne : a[k].toNat ≠ b[k].toNat := fun h => he (UInt8.toNat_inj.1 h)
        generalize a[k].toNat = x at p0 hne
        generalize b[k].toNat = y at q0 hne
        have h1 : ((x : Int) != (y : Int)) = true := by simp; omega
        have h2 : (x != y) = true := by simpa using hne
        clear he hne
        go_wp2
        go_quiet (fail)
        go_wp2
        go_ret
        rw [HD.out]
        exact ⟨rfl, below_drewN H.out _⟩
    · have HD : Hid (decide (a = b) = true) := decide_eq_true (eq_of_all (Ha.out.trans Hb.out.symm) fun j h1 h2 => Hall.out j h1 h2 (by have := Ha.out; omega))
      go_wp2
      go_ret
      rw [HD.out]
      exact ⟨rfl, hbl⟩

set_option maxRecDepth 100000 in
set_option maxHeartbeats 4000000 in
theorem refSame (A B : Option Addr) (n m c d : Nat) (a b : List UInt8) (w : World) (ha : a.length = n) (hb : b.length = m) (hA : Rd w w.heap.size A (bv a)) (hB : Rd w w.heap.size B (bv b)) (hn : n ≤ 140737488355328) (hm : m ≤ 140737488355328) :
    Calls Try.prog 45 #[.slice A n c, .slice B m d] w fun e w' => e = .returned (.bool (decide (a = b))) ∧ Below w.heap.size w w' := by
  have Ha := Lib.hid ha
  have Hb := Lib.hid hb
  by_cases hnm : n = m
  case neg =>
    have HD : Hid (decide (a = b) = false) := by
      show decide (a = b) = false
      simp; rintro rfl; omega
    have h1 : ((n : Int) != (m : Int)) = true := by simp; omega
    have h2 : (n != m) = true := by simp; omega
    clear ha hb hnm
    go_enter Try.func45, Try.ntmps45
    go_wp2
    go_ret
    rw [HD.out]
    exact ⟨rfl, Below.refl _ _⟩
  subst hnm
  clear ha hb
  go_enter Try.func45, Try.ntmps45
  go_wp2
  go_loopw [5] (fun i wr => ∃ (k : Nat), k ≤ n ∧ i = .int .i64 k ∧ Below w.heap.size w wr ∧ ∀ j (ha : j < a.length) (hb : j < b.length), j < k → a[j] = b[j])
    (fun i _ => n - (intOf i).toNat)
  case atStart => exact ⟨0, Nat.zero_le _, rfl, Below.refl _ _, fun j _ _ h => absurd h (by omega)⟩
  case round =>
    obtain ⟨k, hk, rfl, hbl, hall⟩ := hrel
    have Hall := Lib.hid hall
    clear hall
    by_cases hlt : k < n
    · have hk0 : (0 : Int) ≤ k := by omega
      have hk1 : (k : Int) < n := by omega
      have hka : k < a.length := by rw [Ha.out]; exact hlt
      have hkb : k < b.length := by rw [Hb.out]; exact hlt
      obtain ⟨ad, rfl, had, p0⟩ := (hA.below hbl) k (.int .u8 a[k].toNat) (by simp [bv, hka])
      obtain ⟨ad', rfl, had', q0⟩ := (hB.below hbl) k (.int .u8 b[k].toNat) (by simp [bv, hkb])
      have H := Lib.hid hbl
      clear hbl
      by_cases he : a[k] = b[k]
      · have He := Lib.hid he
        rw [← he] at q0
        clear he
        generalize a[k].toNat = x at p0 q0
        go_wp2
        go_quiet (fail)
        go_wp2
        go_roundw
        case rel =>
          exact ⟨k + 1, by omega, by go_num, below_drewN H.out _, fun j h1 h2 h3 => by
            by_cases hj : j = k
            · subst hj; exact He.out
            · exact Hall.out j h1 h2 (by omega)⟩
        case measure => simp [intOf]; omega
      · have HD : Hid (decide (a = b) = false) := decide_eq_false (take_ne hka hkb he)
        have hne : a[k].toNat ≠ b[k].toNat := fun h => he (UInt8.toNat_inj.1 h)
        generalize a[k].toNat = x at p0 hne
        generalize b[k].toNat = y at q0 hne
        have h1 : ((x : Int) != (y : Int)) = true := by simp; omega
        have h2 : (x != y) = true := by simpa using hne
        clear he hne
        go_wp2
        go_quiet (fail)
        go_wp2
        go_ret
        rw [HD.out]
        exact ⟨rfl, below_drewN H.out _⟩
    · have HD : Hid (decide (a = b) = true) := decide_eq_true (eq_of_all (Ha.out.trans Hb.out.symm) fun j h1 h2 => Hall.out j h1 h2 (by have := Ha.out; omega))
      go_wp2
      go_ret
      rw [HD.out]
      exact ⟨rfl, hbl⟩
end Go.Proofs.Ytifimeohdgnehaa
