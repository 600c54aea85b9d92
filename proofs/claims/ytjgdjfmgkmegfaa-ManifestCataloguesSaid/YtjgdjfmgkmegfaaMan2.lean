import Derived.Test.YtjgdjfmgkmegfaaMan1
namespace Go.Proofs.Ytjgdjfmgkmegfaa
open Go.RowKit Go.Maps

theorem refWithin_any (v lo hi : Int) (w : World) :
    Calls Try.prog 42 #[.int .i64 v, .int .i64 lo, .int .i64 hi] w fun e w' => e = .returned (.bool (decide (lo ≤ v) && decide (v ≤ hi))) ∧ w = w' := by
  go_enter Try.func42, Try.ntmps42
  go_wp2
  all_goals go_ret
  all_goals (refine ⟨ret_bool ?_, rfl⟩; simp [*])
  all_goals omega

set_option maxRecDepth 100000 in
set_option maxHeartbeats 1000000 in
theorem refSegsRight_any (id ns nx mk cl : Int) (A : Option Addr) (c : Nat) (segs : List Int) (pv : Value) (w : World) (hA : Rd w w.heap.size A (segs.map (.int .i64))) :
    Calls Try.prog 43 #[.agg #[.int .i64 id, .int .i64 ns, .int .i64 nx, .int .i64 mk, .int .i64 cl, .slice A segs.length c, pv]] w fun e w' =>
      e = .returned (.bool (segsR ns segs)) ∧ Below w.heap.size w w' := by
  by_cases h0 : segs.length < 1
  · go_enter Try.func43, Try.ntmps43
    go_wp2
    go_ret
    exact ⟨ret_bool (by unfold segsR; simp; omega), (Below.refl _ _).alloc (Nat.le_refl _) _⟩
  by_cases h1 : 64 < segs.length
  · go_enter Try.func43, Try.ntmps43
    go_wp2
    go_ret
    exact ⟨ret_bool (by unfold segsR; simp; omega), (Below.refl _ _).alloc (Nat.le_refl _) _⟩
  go_enter Try.func43, Try.ntmps43
  go_wp2
  go_loopw [3] (fun i wr => ∃ k : Nat, k ≤ segs.length ∧ i = .int .i64 k ∧ Below w.heap.size w wr ∧
      wr.cell? ⟨w.heap.size, 1, none⟩ = some (.int .i64 ns) ∧ wr.cell? ⟨w.heap.size, 5, none⟩ = some (.slice A segs.length c) ∧ (segs.take k).Nodup ∧ ∀ s ∈ segs.take k, 1 ≤ s ∧ s < ns)
    (fun i _ => segs.length - (intOf i).toNat)
  case atStart =>
    refine ⟨0, Nat.zero_le _, rfl, (Below.refl _ _).alloc (Nat.le_refl _) _, by go_simp, by go_simp, by simp, by simp⟩
  case round =>
    obtain ⟨k, hk, rfl, hb, hc1, hc5, hnd, hall⟩ := hrel
    by_cases hlt : k < segs.length
    · obtain ⟨ad, rfl, hadb, hcell⟩ := (hA.below hb).int hlt
      have H := Lib.hid (And.intro (take_snoc segs k hlt) (And.intro hnd hall))
      clear hnd hall
      by_cases hx1 : segs[k] < 1
      · have hbad := Lib.hid (segsR_bad (ns := ns) hlt (.inl hx1))
        go_wp2
        go_quiet (fail)
        go_wp2
        go_ret
        exact ⟨ret_bool hbad.out.symm, below_drewN hb _⟩
      by_cases hx2 : ns ≤ segs[k]
      · have hbad := Lib.hid (segsR_bad (ns := ns) hlt (.inr (.inl hx2)))
        go_wp2
        go_quiet (fail)
        go_wp2
        go_ret
        exact ⟨ret_bool hbad.out.symm, below_drewN hb _⟩
      go_wp2
      go_quiet (fail)
      go_wp2
      generalize hwo : wr.drewN nq = wo
      have hbo : Below w.heap.size w wo := by rw [← hwo]; exact below_drewN hb _
      have hco1 : wo.cell? ⟨w.heap.size, 1, none⟩ = some (.int .i64 ns) := by rw [← hwo]; exact hc1
      have hco5 : wo.cell? ⟨w.heap.size, 5, none⟩ = some (.slice (some ad) segs.length c) := by rw [← hwo]; exact hc5
      have hrd := Lib.hid (hA.below hbo)
      have hcello : wo.cell? (ad.add k) = some (.int .i64 segs[k]) := by rw [← hwo]; exact hcell
      clear hwo hcell hc1 hc5 hb
      go_loopw [4] (fun i w2 => ∃ (j n : Nat), j ≤ k ∧ i = .int .i64 j ∧ w2 = wo.drewN n ∧ segs[k] ∉ segs.take j) (fun i _ => k - (intOf i).toNat)
      case atStart => exact ⟨0, 0, Nat.zero_le _, rfl, rfl, by simp⟩
      case round =>
        obtain ⟨j, n, hj, rfl, rfl, hnot⟩ := hrel
        have Hn := Lib.hid hnot
        clear hnot
        by_cases hjk : j < k
        · have hjl : j < segs.length := by omega
          obtain ⟨ad', hae, _, hcj⟩ := hrd.out.int hjl
          cases hae
          by_cases heq : segs[j] = segs[k]
          · have hbad := Lib.hid (segsR_bad (ns := ns) hlt (.inr (.inr (by rw [← heq]; exact List.mem_take_iff_getElem.2 ⟨j, by omega, rfl⟩))))
            have heq' : (segs[j] == segs[k]) = true := by simp [heq]
            clear heq
            go_wp2
            go_quiet (fail)
            go_wp2
            go_ret
            exact ⟨ret_bool hbad.out.symm, below_drewN (below_drewN hbo _) _⟩
          · have hn2 := Lib.hid (show segs[k] ∉ segs.take (j + 1) by
              rw [take_snoc segs j hjl]
              intro h
              rcases List.mem_append.1 h with h | h
              · exact Hn.out h
              · simp at h; exact heq h.symm)
            have heq' : (segs[j] == segs[k]) = false := by simp [heq]
            clear heq
            go_wp2
            go_quiet (fail)
            go_wp2
            go_roundw
            case rel => exact ⟨j + 1, _, by omega, by go_num, rfl, hn2.out⟩
            case measure => simp [intOf]; omega
        · obtain rfl : j = k := by omega
          go_wp2
          go_roundw
          case rel =>
            refine ⟨j + 1, by omega, by go_num, below_drewN hbo _, by go_simp, by go_simp, ?_, ?_⟩
            · rw [H.out.1]; exact nodup_snoc H.out.2.1 Hn.out
            · rw [H.out.1]
              intro s hs
              rcases List.mem_append.1 hs with h | h
              · exact H.out.2.2 s h
              · simp at h; subst h; omega
          case measure => simp [intOf]; omega
    · go_wp2
      go_ret
      refine ⟨ret_bool ?_, hb⟩
      have e : segs.take k = segs := List.take_of_length_le (by omega)
      rw [e] at hnd hall
      rw [segsR_good h0 h1 hall hnd]
end Go.Proofs.Ytjgdjfmgkmegfaa
