import Derived.Test.YtmhlgbpgdhhfnaaGreatV17
set_option linter.unusedVariables false
set_option linter.unusedSimpArgs false
namespace Go.Proofs.YtmhlgbpgdhhfnaaGreat
open Go.RowKit Go.Maps Sqz

/-! chronicleref4.Check -/
set_option maxRecDepth 100000 in
set_option maxHeartbeats 8000000 in
theorem chkR_any (kind off time pid seq : Int) (key val : List UInt8) (w : World) :
    Calls Tryz.prog 43 #[.agg #[.int .i64 kind, .int .i64 off, .int .i64 time, .int .i64 pid, .int .i64 seq, strV key, strV val]] w fun e w' => e = .returned (.int .i64 (chkR ⟨kind, off, time, pid, seq, key, val⟩)) ∧ Below w.heap.size w w' := by
  generalize hR : chkR ⟨kind, off, time, pid, seq, key, val⟩ = R
  unfold chkR at hR
  simp only at hR
  have hbw : Hid (Below w.heap.size w (w.alloc (.cells #[.int .i64 kind, .int .i64 off, .int .i64 time, .int .i64 pid, .int .i64 seq, strV key, strV val] 33))) := (Below.refl _ _).alloc (Nat.le_refl _) _
  unfold strV at hbw ⊢
  go_enter Tryz.func43, Tryz.ntmps43
  by_cases hk1 : kind = 1
  · subst hk1
    rw [if_neg (by rintro ⟨h, _⟩; exact h rfl)] at hR
    unfold numOk at hR
    by_cases ho : (0 ≤ off ∧ off < 1099511627776)
    · by_cases ht : (0 ≤ time ∧ time < 1125899906842624)
      · by_cases hp : (0 ≤ pid ∧ pid < 4294967296)
        · rw [if_neg (by rintro (h | h | h); exact h ho; exact h ht; exact h hp)] at hR
          by_cases h0 : pid = 0
          · have g7 : (pid == 0) = true := by simpa using h0
            have g8 : ¬ 0 < pid := by omega
            by_cases hs : seq = 0
            · have g0 : (seq == 0) = true := by simpa using hs
              have g9 : (seq != 0) = false := by simpa using hs
              rw [if_neg (by rintro (⟨_, h⟩ | ⟨h, _⟩); exact h hs; omega)] at hR
              have Hs := Lib.hid (And.intro h0 hs)
              clear h0 hs
              by_cases hk1 : key.length < 1
              · rw [if_pos (.inl hk1)] at hR
                have g1 : (key.length : Int) < 1 := by omega
                have HE : Hid (R = 42) := by show _ = _; rw [← hR]; try simp [*]
                clear hR
                go_wp2_with (first
                  | (go_at_call 59
                     with_reducible refine (below_t off 0 1099511627776 _ ho).mono ?_
                     rintro e w1 ⟨rfl, rfl⟩)
                  | (go_at_call 59
                     with_reducible refine (below_t time 0 1125899906842624 _ ht).mono ?_
                     rintro e w1 ⟨rfl, rfl⟩)
                  | (go_at_call 59
                     with_reducible refine (below_t pid 0 4294967296 _ hp).mono ?_
                     rintro e w1 ⟨rfl, rfl⟩))
                go_ret
                rw [HE.out]
                exact ⟨rfl, hbw.out⟩
              by_cases hk2 : 64 < key.length
              · rw [if_pos (.inr hk2)] at hR
                have g1 : ¬ (key.length : Int) < 1 := by omega
                have g2 : (64 : Int) < key.length := by omega
                have HE : Hid (R = 42) := by show _ = _; rw [← hR]; try simp [*]
                clear hR
                go_wp2_with (first
                  | (go_at_call 59
                     with_reducible refine (below_t off 0 1099511627776 _ ho).mono ?_
                     rintro e w1 ⟨rfl, rfl⟩)
                  | (go_at_call 59
                     with_reducible refine (below_t time 0 1125899906842624 _ ht).mono ?_
                     rintro e w1 ⟨rfl, rfl⟩)
                  | (go_at_call 59
                     with_reducible refine (below_t pid 0 4294967296 _ hp).mono ?_
                     rintro e w1 ⟨rfl, rfl⟩))
                go_ret
                rw [HE.out]
                exact ⟨rfl, hbw.out⟩
              rw [if_neg (by omega)] at hR
              have g1 : ¬ (key.length : Int) < 1 := by omega
              have g2 : ¬ (64 : Int) < key.length := by omega
              by_cases hv1 : 1024 < val.length
              · rw [if_pos (.inl hv1)] at hR
                have g3 : (1024 : Int) < val.length := by omega
                have HE : Hid (R = 43) := by show _ = _; rw [← hR]; try simp [*]
                clear hR
                go_wp2_with (first
                  | (go_at_call 59
                     with_reducible refine (below_t off 0 1099511627776 _ ho).mono ?_
                     rintro e w1 ⟨rfl, rfl⟩)
                  | (go_at_call 59
                     with_reducible refine (below_t time 0 1125899906842624 _ ht).mono ?_
                     rintro e w1 ⟨rfl, rfl⟩)
                  | (go_at_call 59
                     with_reducible refine (below_t pid 0 4294967296 _ hp).mono ?_
                     rintro e w1 ⟨rfl, rfl⟩))
                go_ret
                rw [HE.out]
                exact ⟨rfl, hbw.out⟩
              rw [if_neg (by rintro (h | ⟨h, _⟩); exact hv1 h; cases h)] at hR
              have g3 : ¬ (1024 : Int) < val.length := by omega
              have HE : Hid (R = 0) := by show _ = _; rw [← hR]; try simp [*]
              clear hR
              go_wp2_with (first
                | (go_at_call 59
                   with_reducible refine (below_t off 0 1099511627776 _ ho).mono ?_
                   rintro e w1 ⟨rfl, rfl⟩)
                | (go_at_call 59
                   with_reducible refine (below_t time 0 1125899906842624 _ ht).mono ?_
                   rintro e w1 ⟨rfl, rfl⟩)
                | (go_at_call 59
                   with_reducible refine (below_t pid 0 4294967296 _ hp).mono ?_
                   rintro e w1 ⟨rfl, rfl⟩))
              go_ret
              rw [HE.out]
              exact ⟨rfl, hbw.out⟩
            rw [if_pos (.inl ⟨h0, hs⟩)] at hR
            have Hs := Lib.hid h0
            have g9 : (seq != 0) = true := by simpa using hs
            clear h0
            have g0 : (seq == 0) = false := by simpa using hs
            have HE : Hid (R = 45) := by show _ = _; rw [← hR]; try simp [*]
            clear hR
            go_wp2_with (first
              | (go_at_call 59
                 with_reducible refine (below_t off 0 1099511627776 _ ho).mono ?_
                 rintro e w1 ⟨rfl, rfl⟩)
              | (go_at_call 59
                 with_reducible refine (below_t time 0 1125899906842624 _ ht).mono ?_
                 rintro e w1 ⟨rfl, rfl⟩)
              | (go_at_call 59
                 with_reducible refine (below_t pid 0 4294967296 _ hp).mono ?_
                 rintro e w1 ⟨rfl, rfl⟩))
            go_ret
            rw [HE.out]
            exact ⟨rfl, hbw.out⟩
          have h0' : (pid == 0) = false := by simpa using h0
          have h0p : 0 < pid := by omega
          by_cases hs : (1 ≤ seq ∧ seq < 1099511627776)
          · rw [if_neg (by rintro (⟨h, _⟩ | ⟨_, h⟩); exact h0 h; exact h hs)] at hR
            by_cases hk1 : key.length < 1
            · rw [if_pos (.inl hk1)] at hR
              have g1 : (key.length : Int) < 1 := by omega
              have HE : Hid (R = 42) := by show _ = _; rw [← hR]; try simp [*]
              clear hR
              go_wp2_with (first
                | (go_at_call 59
                   with_reducible refine (below_t off 0 1099511627776 _ ho).mono ?_
                   rintro e w1 ⟨rfl, rfl⟩)
                | (go_at_call 59
                   with_reducible refine (below_t time 0 1125899906842624 _ ht).mono ?_
                   rintro e w1 ⟨rfl, rfl⟩)
                | (go_at_call 59
                   with_reducible refine (below_t pid 0 4294967296 _ hp).mono ?_
                   rintro e w1 ⟨rfl, rfl⟩)
                | (go_at_call 59
                   with_reducible refine (below_t seq 1 1099511627776 _ hs).mono ?_
                   rintro e w1 ⟨rfl, rfl⟩))
              go_ret
              rw [HE.out]
              exact ⟨rfl, hbw.out⟩
            by_cases hk2 : 64 < key.length
            · rw [if_pos (.inr hk2)] at hR
              have g1 : ¬ (key.length : Int) < 1 := by omega
              have g2 : (64 : Int) < key.length := by omega
              have HE : Hid (R = 42) := by show _ = _; rw [← hR]; try simp [*]
              clear hR
              go_wp2_with (first
                | (go_at_call 59
                   with_reducible refine (below_t off 0 1099511627776 _ ho).mono ?_
                   rintro e w1 ⟨rfl, rfl⟩)
                | (go_at_call 59
                   with_reducible refine (below_t time 0 1125899906842624 _ ht).mono ?_
                   rintro e w1 ⟨rfl, rfl⟩)
                | (go_at_call 59
                   with_reducible refine (below_t pid 0 4294967296 _ hp).mono ?_
                   rintro e w1 ⟨rfl, rfl⟩)
                | (go_at_call 59
                   with_reducible refine (below_t seq 1 1099511627776 _ hs).mono ?_
                   rintro e w1 ⟨rfl, rfl⟩))
              go_ret
              rw [HE.out]
              exact ⟨rfl, hbw.out⟩
            rw [if_neg (by omega)] at hR
            have g1 : ¬ (key.length : Int) < 1 := by omega
            have g2 : ¬ (64 : Int) < key.length := by omega
            by_cases hv1 : 1024 < val.length
            · rw [if_pos (.inl hv1)] at hR
              have g3 : (1024 : Int) < val.length := by omega
              have HE : Hid (R = 43) := by show _ = _; rw [← hR]; try simp [*]
              clear hR
              go_wp2_with (first
                | (go_at_call 59
                   with_reducible refine (below_t off 0 1099511627776 _ ho).mono ?_
                   rintro e w1 ⟨rfl, rfl⟩)
                | (go_at_call 59
                   with_reducible refine (below_t time 0 1125899906842624 _ ht).mono ?_
                   rintro e w1 ⟨rfl, rfl⟩)
                | (go_at_call 59
                   with_reducible refine (below_t pid 0 4294967296 _ hp).mono ?_
                   rintro e w1 ⟨rfl, rfl⟩)
                | (go_at_call 59
                   with_reducible refine (below_t seq 1 1099511627776 _ hs).mono ?_
                   rintro e w1 ⟨rfl, rfl⟩))
              go_ret
              rw [HE.out]
              exact ⟨rfl, hbw.out⟩
            rw [if_neg (by rintro (h | ⟨h, _⟩); exact hv1 h; cases h)] at hR
            have g3 : ¬ (1024 : Int) < val.length := by omega
            have HE : Hid (R = 0) := by show _ = _; rw [← hR]; try simp [*]
            clear hR
            go_wp2_with (first
              | (go_at_call 59
                 with_reducible refine (below_t off 0 1099511627776 _ ho).mono ?_
                 rintro e w1 ⟨rfl, rfl⟩)
              | (go_at_call 59
                 with_reducible refine (below_t time 0 1125899906842624 _ ht).mono ?_
                 rintro e w1 ⟨rfl, rfl⟩)
              | (go_at_call 59
                 with_reducible refine (below_t pid 0 4294967296 _ hp).mono ?_
                 rintro e w1 ⟨rfl, rfl⟩)
              | (go_at_call 59
                 with_reducible refine (below_t seq 1 1099511627776 _ hs).mono ?_
                 rintro e w1 ⟨rfl, rfl⟩))
            go_ret
            rw [HE.out]
            exact ⟨rfl, hbw.out⟩
          rw [if_pos (.inr ⟨h0p, hs⟩)] at hR
          have HE : Hid (R = 45) := by show _ = _; rw [← hR]; try simp [*]
          clear hR
          go_wp2_with (first
            | (go_at_call 59
               with_reducible refine (below_t off 0 1099511627776 _ ho).mono ?_
               rintro e w1 ⟨rfl, rfl⟩)
            | (go_at_call 59
               with_reducible refine (below_t time 0 1125899906842624 _ ht).mono ?_
               rintro e w1 ⟨rfl, rfl⟩)
            | (go_at_call 59
               with_reducible refine (below_t pid 0 4294967296 _ hp).mono ?_
               rintro e w1 ⟨rfl, rfl⟩)
            | (go_at_call 59
               with_reducible refine (below_f seq 1 1099511627776 _ hs).mono ?_
               rintro e w1 ⟨rfl, rfl⟩))
          go_ret
          rw [HE.out]
          exact ⟨rfl, hbw.out⟩
        rw [if_pos (.inr (.inr hp))] at hR
        have HE : Hid (R = 45) := by show _ = _; rw [← hR]; try simp [*]
        clear hR
        go_wp2_with (first
          | (go_at_call 59
             with_reducible refine (below_t off 0 1099511627776 _ ho).mono ?_
             rintro e w1 ⟨rfl, rfl⟩)
          | (go_at_call 59
             with_reducible refine (below_t time 0 1125899906842624 _ ht).mono ?_
             rintro e w1 ⟨rfl, rfl⟩)
          | (go_at_call 59
             with_reducible refine (below_f pid 0 4294967296 _ hp).mono ?_
             rintro e w1 ⟨rfl, rfl⟩))
        go_ret
        rw [HE.out]
        exact ⟨rfl, hbw.out⟩
      rw [if_pos (.inr (.inl ht))] at hR
      have HE : Hid (R = 45) := by show _ = _; rw [← hR]; try simp [*]
      clear hR
      go_wp2_with (first
        | (go_at_call 59
           with_reducible refine (below_t off 0 1099511627776 _ ho).mono ?_
           rintro e w1 ⟨rfl, rfl⟩)
        | (go_at_call 59
           with_reducible refine (below_f time 0 1125899906842624 _ ht).mono ?_
           rintro e w1 ⟨rfl, rfl⟩))
      go_ret
      rw [HE.out]
      exact ⟨rfl, hbw.out⟩
    rw [if_pos (.inl ho)] at hR
    have HE : Hid (R = 45) := by show _ = _; rw [← hR]; try simp [*]
    clear hR
    go_wp2_with (first
      | (go_at_call 59
         with_reducible refine (below_f off 0 1099511627776 _ ho).mono ?_
         rintro e w1 ⟨rfl, rfl⟩))
    go_ret
    rw [HE.out]
    exact ⟨rfl, hbw.out⟩
  have hk1' : (kind == 1) = false := by simpa using hk1
  by_cases hk2 : kind = 2
  · subst hk2
    rw [if_neg (by rintro ⟨_, h⟩; exact h rfl)] at hR
    unfold numOk at hR
    by_cases ho : (0 ≤ off ∧ off < 1099511627776)
    · by_cases ht : (0 ≤ time ∧ time < 1125899906842624)
      · by_cases hp : (0 ≤ pid ∧ pid < 4294967296)
        · rw [if_neg (by rintro (h | h | h); exact h ho; exact h ht; exact h hp)] at hR
          by_cases h0 : pid = 0
          · have g7 : (pid == 0) = true := by simpa using h0
            have g8 : ¬ 0 < pid := by omega
            by_cases hs : seq = 0
            · have g0 : (seq == 0) = true := by simpa using hs
              have g9 : (seq != 0) = false := by simpa using hs
              rw [if_neg (by rintro (⟨_, h⟩ | ⟨h, _⟩); exact h hs; omega)] at hR
              have Hs := Lib.hid (And.intro h0 hs)
              clear h0 hs
              by_cases hk1 : key.length < 1
              · rw [if_pos (.inl hk1)] at hR
                have g1 : (key.length : Int) < 1 := by omega
                have HE : Hid (R = 42) := by show _ = _; rw [← hR]; try simp [*]
                clear hR
                go_wp2_with (first
                  | (go_at_call 59
                     with_reducible refine (below_t off 0 1099511627776 _ ho).mono ?_
                     rintro e w1 ⟨rfl, rfl⟩)
                  | (go_at_call 59
                     with_reducible refine (below_t time 0 1125899906842624 _ ht).mono ?_
                     rintro e w1 ⟨rfl, rfl⟩)
                  | (go_at_call 59
                     with_reducible refine (below_t pid 0 4294967296 _ hp).mono ?_
                     rintro e w1 ⟨rfl, rfl⟩))
                go_ret
                rw [HE.out]
                exact ⟨rfl, hbw.out⟩
              by_cases hk2 : 64 < key.length
              · rw [if_pos (.inr hk2)] at hR
                have g1 : ¬ (key.length : Int) < 1 := by omega
                have g2 : (64 : Int) < key.length := by omega
                have HE : Hid (R = 42) := by show _ = _; rw [← hR]; try simp [*]
                clear hR
                go_wp2_with (first
                  | (go_at_call 59
                     with_reducible refine (below_t off 0 1099511627776 _ ho).mono ?_
                     rintro e w1 ⟨rfl, rfl⟩)
                  | (go_at_call 59
                     with_reducible refine (below_t time 0 1125899906842624 _ ht).mono ?_
                     rintro e w1 ⟨rfl, rfl⟩)
                  | (go_at_call 59
                     with_reducible refine (below_t pid 0 4294967296 _ hp).mono ?_
                     rintro e w1 ⟨rfl, rfl⟩))
                go_ret
                rw [HE.out]
                exact ⟨rfl, hbw.out⟩
              rw [if_neg (by omega)] at hR
              have g1 : ¬ (key.length : Int) < 1 := by omega
              have g2 : ¬ (64 : Int) < key.length := by omega
              by_cases hv1 : 1024 < val.length
              · rw [if_pos (.inl hv1)] at hR
                have g3 : (1024 : Int) < val.length := by omega
                have HE : Hid (R = 43) := by show _ = _; rw [← hR]; try simp [*]
                clear hR
                go_wp2_with (first
                  | (go_at_call 59
                     with_reducible refine (below_t off 0 1099511627776 _ ho).mono ?_
                     rintro e w1 ⟨rfl, rfl⟩)
                  | (go_at_call 59
                     with_reducible refine (below_t time 0 1125899906842624 _ ht).mono ?_
                     rintro e w1 ⟨rfl, rfl⟩)
                  | (go_at_call 59
                     with_reducible refine (below_t pid 0 4294967296 _ hp).mono ?_
                     rintro e w1 ⟨rfl, rfl⟩))
                go_ret
                rw [HE.out]
                exact ⟨rfl, hbw.out⟩
              have g3 : ¬ (1024 : Int) < val.length := by omega
              by_cases hv2 : val = []
              · rw [if_neg (by rintro (h | ⟨_, h⟩); exact hv1 h; exact h hv2)] at hR
                subst hv2
                have HE : Hid (R = 0) := by show _ = _; rw [← hR]; try simp [*]
                clear hR
                go_wp2_with (first
                  | (go_at_call 59
                     with_reducible refine (below_t off 0 1099511627776 _ ho).mono ?_
                     rintro e w1 ⟨rfl, rfl⟩)
                  | (go_at_call 59
                     with_reducible refine (below_t time 0 1125899906842624 _ ht).mono ?_
                     rintro e w1 ⟨rfl, rfl⟩)
                  | (go_at_call 59
                     with_reducible refine (below_t pid 0 4294967296 _ hp).mono ?_
                     rintro e w1 ⟨rfl, rfl⟩))
                go_ret
                rw [HE.out]
                exact ⟨rfl, hbw.out⟩
              rw [if_pos (.inr ⟨rfl, hv2⟩)] at hR
              have g4 : (val == []) = false := by simpa using hv2
              have g5 : val.isEmpty = false := by simpa using hv2
              have g6 : (0 : Int) < val.length := by have := List.length_pos_iff.2 hv2; omega
              have HE : Hid (R = 43) := by show _ = _; rw [← hR]; try simp [*]
              clear hR
              go_wp2_with (first
                | (go_at_call 59
                   with_reducible refine (below_t off 0 1099511627776 _ ho).mono ?_
                   rintro e w1 ⟨rfl, rfl⟩)
                | (go_at_call 59
                   with_reducible refine (below_t time 0 1125899906842624 _ ht).mono ?_
                   rintro e w1 ⟨rfl, rfl⟩)
                | (go_at_call 59
                   with_reducible refine (below_t pid 0 4294967296 _ hp).mono ?_
                   rintro e w1 ⟨rfl, rfl⟩))
              go_ret
              rw [HE.out]
              exact ⟨rfl, hbw.out⟩
            rw [if_pos (.inl ⟨h0, hs⟩)] at hR
            have Hs := Lib.hid h0
            have g9 : (seq != 0) = true := by simpa using hs
            clear h0
            have g0 : (seq == 0) = false := by simpa using hs
            have HE : Hid (R = 45) := by show _ = _; rw [← hR]; try simp [*]
            clear hR
            go_wp2_with (first
              | (go_at_call 59
                 with_reducible refine (below_t off 0 1099511627776 _ ho).mono ?_
                 rintro e w1 ⟨rfl, rfl⟩)
              | (go_at_call 59
                 with_reducible refine (below_t time 0 1125899906842624 _ ht).mono ?_
                 rintro e w1 ⟨rfl, rfl⟩)
              | (go_at_call 59
                 with_reducible refine (below_t pid 0 4294967296 _ hp).mono ?_
                 rintro e w1 ⟨rfl, rfl⟩))
            go_ret
            rw [HE.out]
            exact ⟨rfl, hbw.out⟩
          have h0' : (pid == 0) = false := by simpa using h0
          have h0p : 0 < pid := by omega
          by_cases hs : (1 ≤ seq ∧ seq < 1099511627776)
          · rw [if_neg (by rintro (⟨h, _⟩ | ⟨_, h⟩); exact h0 h; exact h hs)] at hR
            by_cases hk1 : key.length < 1
            · rw [if_pos (.inl hk1)] at hR
              have g1 : (key.length : Int) < 1 := by omega
              have HE : Hid (R = 42) := by show _ = _; rw [← hR]; try simp [*]
              clear hR
              go_wp2_with (first
                | (go_at_call 59
                   with_reducible refine (below_t off 0 1099511627776 _ ho).mono ?_
                   rintro e w1 ⟨rfl, rfl⟩)
                | (go_at_call 59
                   with_reducible refine (below_t time 0 1125899906842624 _ ht).mono ?_
                   rintro e w1 ⟨rfl, rfl⟩)
                | (go_at_call 59
                   with_reducible refine (below_t pid 0 4294967296 _ hp).mono ?_
                   rintro e w1 ⟨rfl, rfl⟩)
                | (go_at_call 59
                   with_reducible refine (below_t seq 1 1099511627776 _ hs).mono ?_
                   rintro e w1 ⟨rfl, rfl⟩))
              go_ret
              rw [HE.out]
              exact ⟨rfl, hbw.out⟩
            by_cases hk2 : 64 < key.length
            · rw [if_pos (.inr hk2)] at hR
              have g1 : ¬ (key.length : Int) < 1 := by omega
              have g2 : (64 : Int) < key.length := by omega
              have HE : Hid (R = 42) := by show _ = _; rw [← hR]; try simp [*]
              clear hR
              go_wp2_with (first
                | (go_at_call 59
                   with_reducible refine (below_t off 0 1099511627776 _ ho).mono ?_
                   rintro e w1 ⟨rfl, rfl⟩)
                | (go_at_call 59
                   with_reducible refine (below_t time 0 1125899906842624 _ ht).mono ?_
                   rintro e w1 ⟨rfl, rfl⟩)
                | (go_at_call 59
                   with_reducible refine (below_t pid 0 4294967296 _ hp).mono ?_
                   rintro e w1 ⟨rfl, rfl⟩)
                | (go_at_call 59
                   with_reducible refine (below_t seq 1 1099511627776 _ hs).mono ?_
                   rintro e w1 ⟨rfl, rfl⟩))
              go_ret
              rw [HE.out]
              exact ⟨rfl, hbw.out⟩
            rw [if_neg (by omega)] at hR
            have g1 : ¬ (key.length : Int) < 1 := by omega
            have g2 : ¬ (64 : Int) < key.length := by omega
            by_cases hv1 : 1024 < val.length
            · rw [if_pos (.inl hv1)] at hR
              have g3 : (1024 : Int) < val.length := by omega
              have HE : Hid (R = 43) := by show _ = _; rw [← hR]; try simp [*]
              clear hR
              go_wp2_with (first
                | (go_at_call 59
                   with_reducible refine (below_t off 0 1099511627776 _ ho).mono ?_
                   rintro e w1 ⟨rfl, rfl⟩)
                | (go_at_call 59
                   with_reducible refine (below_t time 0 1125899906842624 _ ht).mono ?_
                   rintro e w1 ⟨rfl, rfl⟩)
                | (go_at_call 59
                   with_reducible refine (below_t pid 0 4294967296 _ hp).mono ?_
                   rintro e w1 ⟨rfl, rfl⟩)
                | (go_at_call 59
                   with_reducible refine (below_t seq 1 1099511627776 _ hs).mono ?_
                   rintro e w1 ⟨rfl, rfl⟩))
              go_ret
              rw [HE.out]
              exact ⟨rfl, hbw.out⟩
            have g3 : ¬ (1024 : Int) < val.length := by omega
            by_cases hv2 : val = []
            · rw [if_neg (by rintro (h | ⟨_, h⟩); exact hv1 h; exact h hv2)] at hR
              subst hv2
              have HE : Hid (R = 0) := by show _ = _; rw [← hR]; try simp [*]
              clear hR
              go_wp2_with (first
                | (go_at_call 59
                   with_reducible refine (below_t off 0 1099511627776 _ ho).mono ?_
                   rintro e w1 ⟨rfl, rfl⟩)
                | (go_at_call 59
                   with_reducible refine (below_t time 0 1125899906842624 _ ht).mono ?_
                   rintro e w1 ⟨rfl, rfl⟩)
                | (go_at_call 59
                   with_reducible refine (below_t pid 0 4294967296 _ hp).mono ?_
                   rintro e w1 ⟨rfl, rfl⟩)
                | (go_at_call 59
                   with_reducible refine (below_t seq 1 1099511627776 _ hs).mono ?_
                   rintro e w1 ⟨rfl, rfl⟩))
              go_ret
              rw [HE.out]
              exact ⟨rfl, hbw.out⟩
            rw [if_pos (.inr ⟨rfl, hv2⟩)] at hR
            have g4 : (val == []) = false := by simpa using hv2
            have g5 : val.isEmpty = false := by simpa using hv2
            have g6 : (0 : Int) < val.length := by have := List.length_pos_iff.2 hv2; omega
            have HE : Hid (R = 43) := by show _ = _; rw [← hR]; try simp [*]
            clear hR
            go_wp2_with (first
              | (go_at_call 59
                 with_reducible refine (below_t off 0 1099511627776 _ ho).mono ?_
                 rintro e w1 ⟨rfl, rfl⟩)
              | (go_at_call 59
                 with_reducible refine (below_t time 0 1125899906842624 _ ht).mono ?_
                 rintro e w1 ⟨rfl, rfl⟩)
              | (go_at_call 59
                 with_reducible refine (below_t pid 0 4294967296 _ hp).mono ?_
                 rintro e w1 ⟨rfl, rfl⟩)
              | (go_at_call 59
                 with_reducible refine (below_t seq 1 1099511627776 _ hs).mono ?_
                 rintro e w1 ⟨rfl, rfl⟩))
            go_ret
            rw [HE.out]
            exact ⟨rfl, hbw.out⟩
          rw [if_pos (.inr ⟨h0p, hs⟩)] at hR
          have HE : Hid (R = 45) := by show _ = _; rw [← hR]; try simp [*]
          clear hR
          go_wp2_with (first
            | (go_at_call 59
               with_reducible refine (below_t off 0 1099511627776 _ ho).mono ?_
               rintro e w1 ⟨rfl, rfl⟩)
            | (go_at_call 59
               with_reducible refine (below_t time 0 1125899906842624 _ ht).mono ?_
               rintro e w1 ⟨rfl, rfl⟩)
            | (go_at_call 59
               with_reducible refine (below_t pid 0 4294967296 _ hp).mono ?_
               rintro e w1 ⟨rfl, rfl⟩)
            | (go_at_call 59
               with_reducible refine (below_f seq 1 1099511627776 _ hs).mono ?_
               rintro e w1 ⟨rfl, rfl⟩))
          go_ret
          rw [HE.out]
          exact ⟨rfl, hbw.out⟩
        rw [if_pos (.inr (.inr hp))] at hR
        have HE : Hid (R = 45) := by show _ = _; rw [← hR]; try simp [*]
        clear hR
        go_wp2_with (first
          | (go_at_call 59
             with_reducible refine (below_t off 0 1099511627776 _ ho).mono ?_
             rintro e w1 ⟨rfl, rfl⟩)
          | (go_at_call 59
             with_reducible refine (below_t time 0 1125899906842624 _ ht).mono ?_
             rintro e w1 ⟨rfl, rfl⟩)
          | (go_at_call 59
             with_reducible refine (below_f pid 0 4294967296 _ hp).mono ?_
             rintro e w1 ⟨rfl, rfl⟩))
        go_ret
        rw [HE.out]
        exact ⟨rfl, hbw.out⟩
      rw [if_pos (.inr (.inl ht))] at hR
      have HE : Hid (R = 45) := by show _ = _; rw [← hR]; try simp [*]
      clear hR
      go_wp2_with (first
        | (go_at_call 59
           with_reducible refine (below_t off 0 1099511627776 _ ho).mono ?_
           rintro e w1 ⟨rfl, rfl⟩)
        | (go_at_call 59
           with_reducible refine (below_f time 0 1125899906842624 _ ht).mono ?_
           rintro e w1 ⟨rfl, rfl⟩))
      go_ret
      rw [HE.out]
      exact ⟨rfl, hbw.out⟩
    rw [if_pos (.inl ho)] at hR
    have HE : Hid (R = 45) := by show _ = _; rw [← hR]; try simp [*]
    clear hR
    go_wp2_with (first
      | (go_at_call 59
         with_reducible refine (below_f off 0 1099511627776 _ ho).mono ?_
         rintro e w1 ⟨rfl, rfl⟩))
    go_ret
    rw [HE.out]
    exact ⟨rfl, hbw.out⟩
  have hk2' : (kind == 2) = false := by simpa using hk2
  have hk1b : (kind != 1) = true := by simpa using hk1
  have hk2b : (kind != 2) = true := by simpa using hk2
  rw [if_pos ⟨hk1, hk2⟩] at hR
  have HE : Hid (R = 44) := by show _ = _; rw [← hR]; try simp [*]
  clear hR
  go_wp2
  go_ret
  rw [HE.out]
  exact ⟨rfl, hbw.out⟩
end Go.Proofs.YtmhlgbpgdhhfnaaGreat
