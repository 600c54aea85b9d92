import Derived.Test.YtifimeohdgnehaaDoorNm2
namespace Go.Proofs.YtifimeohdgnehaaDoor
open Go.Shelf Go.RowKit

theorem nm_bad {suf : ByteArray} {a b : Int} (h : ¬ (0 ≤ a ∧ a < 1073741824) ∨ ¬ (0 ≤ b ∧ b < 1073741824)) : nmB suf a b = ByteArray.mk #[] := by
  unfold nmB okN
  rw [if_neg]
  simp only [Bool.and_eq_true, decide_eq_true_eq]
  omega
theorem nm_good (suf : ByteArray) (u v : Nat) (hu : u < 1073741824) (hv : v < 1073741824) :
    nmB suf u v = ByteArray.mk #[116] ++ ⟨(Lib.decDigits u).toArray⟩ ++ ByteArray.mk #[46] ++ ⟨(Lib.decDigits v).toArray⟩ ++ suf := by
  unfold nmB okN
  rw [if_pos]
  · rfl
  · simp only [Bool.and_eq_true, decide_eq_true_eq]
    omega

set_option maxRecDepth 100000 in
theorem segName (a b : Int) (w : World) (ht : Tab w) :
    Calls Tryd.prog 5 #[.int .i64 a, .int .i64 b] w fun e w' => e = .returned (.string (nmB ⟨#[46, 115, 101, 103]⟩ a b)) ∧ Below w.heap.size w w' := by
  go_enter Tryd.func5, Tryd.ntmps5
  by_cases ha0 : 0 ≤ a
  case neg =>
    go_wp2
    all_goals go_ret
    all_goals exact ⟨by rw [nm_bad (.inl (by omega))]; rfl, Below.refl _ _⟩
  by_cases ha1 : a < 1073741824
  case neg =>
    go_wp2
    all_goals go_ret
    all_goals exact ⟨by rw [nm_bad (.inl (by omega))]; rfl, Below.refl _ _⟩
  by_cases hb0 : 0 ≤ b
  case neg =>
    go_wp2
    all_goals go_ret
    all_goals exact ⟨by rw [nm_bad (.inr (by omega))]; rfl, Below.refl _ _⟩
  by_cases hb1 : b < 1073741824
  case neg =>
    go_wp2
    all_goals go_ret
    all_goals exact ⟨by rw [nm_bad (.inr (by omega))]; rfl, Below.refl _ _⟩
  obtain ⟨u, rfl⟩ : ∃ u : Nat, a = u := ⟨a.toNat, by omega⟩
  obtain ⟨v, rfl⟩ : ∃ v : Nat, b = v := ⟨b.toNat, by omega⟩
  have hu : u < 1073741824 := by omega
  have hv : v < 1073741824 := by omega
  have lu : (Lib.decDigits u).length ≤ 1073741824 := by have := dig_len u; omega
  have lv : (Lib.decDigits v).length ≤ 1073741824 := by have := dig_len v; omega
  have R := Lib.hid (nm_good ⟨#[46, 115, 101, 103]⟩ u v hu hv)
  have t1 := True.intro
  have ht' := Lib.hid ht
  clear ht
  go_wp2_with (first
    | (go_at_call 10; clear t1; refine (itoa_call u hu w ht'.out).mono ?_; rintro e w1 ⟨rfl, hb1⟩; have B1 := Lib.hid hb1; have T1 := Lib.hid (tab_below ht'.out hb1); clear hb1 ht')
    | (go_at_call 10; refine (itoa_call v hv _ T1.out).mono ?_; rintro e w2 ⟨rfl, hb2⟩; have B2 := Lib.hid hb2; clear hb2)
    | go_in)
  go_ret
  exact ⟨by rw [R.out]; rfl, B1.out.trans (B2.out.mono B1.out.size)⟩


set_option maxRecDepth 100000 in
theorem ref5Name (a b : Int) (w : World) :
    Calls Tryd.prog 6 #[.int .i64 a, .int .i64 b] w fun e w' => e = .returned (.string (nmB ⟨#[46, 115, 101, 103]⟩ a b)) ∧ Below w.heap.size w w' := by
  go_enter Tryd.func6, Tryd.ntmps6
  by_cases ha0 : 0 ≤ a
  case neg =>
    go_wp2
    all_goals go_ret
    all_goals exact ⟨by rw [nm_bad (.inl (by omega))]; rfl, Below.refl _ _⟩
  by_cases ha1 : a < 1073741824
  case neg =>
    go_wp2
    all_goals go_ret
    all_goals exact ⟨by rw [nm_bad (.inl (by omega))]; rfl, Below.refl _ _⟩
  by_cases hb0 : 0 ≤ b
  case neg =>
    go_wp2
    all_goals go_ret
    all_goals exact ⟨by rw [nm_bad (.inr (by omega))]; rfl, Below.refl _ _⟩
  by_cases hb1 : b < 1073741824
  case neg =>
    go_wp2
    all_goals go_ret
    all_goals exact ⟨by rw [nm_bad (.inr (by omega))]; rfl, Below.refl _ _⟩
  obtain ⟨u, rfl⟩ : ∃ u : Nat, a = u := ⟨a.toNat, by omega⟩
  obtain ⟨v, rfl⟩ : ∃ v : Nat, b = v := ⟨b.toNat, by omega⟩
  have hu : u < 1073741824 := by omega
  have hv : v < 1073741824 := by omega
  have lu : (Lib.decDigits u).length ≤ 1073741824 := by have := dig_len u; omega
  have lv : (Lib.decDigits v).length ≤ 1073741824 := by have := dig_len v; omega
  have R := Lib.hid (nm_good ⟨#[46, 115, 101, 103]⟩ u v hu hv)
  have t1 := True.intro
  go_wp2_with (first
    | (go_at_call 12; clear t1; refine (decimal5 u hu _).mono ?_; rintro e w1 ⟨rfl, rfl⟩)
    | (go_at_call 12; refine (decimal5 v hv _).mono ?_; rintro e w1 ⟨rfl, rfl⟩)
    | go_in)
  go_ret
  exact ⟨by rw [R.out]; rfl, Below.refl _ _⟩


set_option maxRecDepth 100000 in
theorem hintName (a b : Int) (w : World) (ht : Tab w) :
    Calls Tryd.prog 7 #[.int .i64 a, .int .i64 b] w fun e w' => e = .returned (.string (nmB ⟨#[46, 104, 105, 110, 116]⟩ a b)) ∧ Below w.heap.size w w' := by
  go_enter Tryd.func7, Tryd.ntmps7
  by_cases ha0 : 0 ≤ a
  case neg =>
    go_wp2
    all_goals go_ret
    all_goals exact ⟨by rw [nm_bad (.inl (by omega))]; rfl, Below.refl _ _⟩
  by_cases ha1 : a < 1073741824
  case neg =>
    go_wp2
    all_goals go_ret
    all_goals exact ⟨by rw [nm_bad (.inl (by omega))]; rfl, Below.refl _ _⟩
  by_cases hb0 : 0 ≤ b
  case neg =>
    go_wp2
    all_goals go_ret
    all_goals exact ⟨by rw [nm_bad (.inr (by omega))]; rfl, Below.refl _ _⟩
  by_cases hb1 : b < 1073741824
  case neg =>
    go_wp2
    all_goals go_ret
    all_goals exact ⟨by rw [nm_bad (.inr (by omega))]; rfl, Below.refl _ _⟩
  obtain ⟨u, rfl⟩ : ∃ u : Nat, a = u := ⟨a.toNat, by omega⟩
  obtain ⟨v, rfl⟩ : ∃ v : Nat, b = v := ⟨b.toNat, by omega⟩
  have hu : u < 1073741824 := by omega
  have hv : v < 1073741824 := by omega
  have lu : (Lib.decDigits u).length ≤ 1073741824 := by have := dig_len u; omega
  have lv : (Lib.decDigits v).length ≤ 1073741824 := by have := dig_len v; omega
  have R := Lib.hid (nm_good ⟨#[46, 104, 105, 110, 116]⟩ u v hu hv)
  have t1 := True.intro
  have ht' := Lib.hid ht
  clear ht
  go_wp2_with (first
    | (go_at_call 10; clear t1; refine (itoa_call u hu w ht'.out).mono ?_; rintro e w1 ⟨rfl, hb1⟩; have B1 := Lib.hid hb1; have T1 := Lib.hid (tab_below ht'.out hb1); clear hb1 ht')
    | (go_at_call 10; refine (itoa_call v hv _ T1.out).mono ?_; rintro e w2 ⟨rfl, hb2⟩; have B2 := Lib.hid hb2; clear hb2)
    | go_in)
  go_ret
  exact ⟨by rw [R.out]; rfl, B1.out.trans (B2.out.mono B1.out.size)⟩


set_option maxRecDepth 100000 in
theorem ref6Name (a b : Int) (w : World) :
    Calls Tryd.prog 8 #[.int .i64 a, .int .i64 b] w fun e w' => e = .returned (.string (nmB ⟨#[46, 104, 105, 110, 116]⟩ a b)) ∧ Below w.heap.size w w' := by
  go_enter Tryd.func8, Tryd.ntmps8
  by_cases ha0 : 0 ≤ a
  case neg =>
    go_wp2
    all_goals go_ret
    all_goals exact ⟨by rw [nm_bad (.inl (by omega))]; rfl, Below.refl _ _⟩
  by_cases ha1 : a < 1073741824
  case neg =>
    go_wp2
    all_goals go_ret
    all_goals exact ⟨by rw [nm_bad (.inl (by omega))]; rfl, Below.refl _ _⟩
  by_cases hb0 : 0 ≤ b
  case neg =>
    go_wp2
    all_goals go_ret
    all_goals exact ⟨by rw [nm_bad (.inr (by omega))]; rfl, Below.refl _ _⟩
  by_cases hb1 : b < 1073741824
  case neg =>
    go_wp2
    all_goals go_ret
    all_goals exact ⟨by rw [nm_bad (.inr (by omega))]; rfl, Below.refl _ _⟩
  obtain ⟨u, rfl⟩ : ∃ u : Nat, a = u := ⟨a.toNat, by omega⟩
  obtain ⟨v, rfl⟩ : ∃ v : Nat, b = v := ⟨b.toNat, by omega⟩
  have hu : u < 1073741824 := by omega
  have hv : v < 1073741824 := by omega
  have lu : (Lib.decDigits u).length ≤ 1073741824 := by have := dig_len u; omega
  have lv : (Lib.decDigits v).length ≤ 1073741824 := by have := dig_len v; omega
  have R := Lib.hid (nm_good ⟨#[46, 104, 105, 110, 116]⟩ u v hu hv)
  have t1 := True.intro
  go_wp2_with (first
    | (go_at_call 15; clear t1; refine (decimal6 u hu w).mono ?_; rintro e w1 ⟨rfl, hb1⟩; have B1 := Lib.hid hb1; clear hb1)
    | (go_at_call 15; refine (decimal6 v hv w1).mono ?_; rintro e w2 ⟨rfl, hb2⟩; have B2 := Lib.hid hb2; clear hb2)
    | go_in)
  go_ret
  exact ⟨by rw [R.out]; rfl, B1.out.trans (B2.out.mono B1.out.size)⟩

end Go.Proofs.YtifimeohdgnehaaDoor
