import Derived.Test.YtifimeohdgnehaaRd5
namespace Go.Proofs.Ytifimeohdgnehaa
open Go.RowKit Go.Maps

set_option maxRecDepth 100000 in
set_option maxHeartbeats 4000000 in
theorem refReadU (A : Option Addr) (n c : Nat) (l : List UInt8) (w : World) (hA : Rd w w.heap.size A (bv l)) (hn : l.length = n) (hmx : n ≤ 140737488355328) :
    Calls Try.prog 63 #[.slice A n c] w fun e w' =>
      UvAns l e ∧ w = w' := by
  have Hn := Lib.hid hn
  clear hn
  go_enter Try.func63, Try.ntmps63
  go_wp2
  go_loop [5, 6, 7] (fun v un i => ∃ (k acc U : Nat), k ≤ n ∧ k < 10 ∧ i = .int .i64 k ∧ v = .int .u64 acc ∧ un = .int .u64 U ∧ U = 2 ^ (7 * k) ∧ acc < 2 ^ (7 * k) ∧ rdE l = (rdU k (l.drop k)).map (fun x => (acc + 2 ^ (7 * k) * x.1, k + x.2)) ∧ errU 0 l = errU k (l.drop k))
    (fun _ _ i => n - (intOf i).toNat)
  case atStart => exact ⟨0, 0, 1, by omega, by omega, rfl, rfl, rfl, rfl, by omega, by simp [rdE], rfl⟩
  case round =>
    obtain ⟨k, acc, U, hk, hk10, rfl, rfl, rfl, hU, ha, hr, he⟩ := hrel
    have HU := Lib.hid hU
    have Ha := Lib.hid ha
    have Hr := Lib.hid hr
    have He := Lib.hid he
    clear ha hr he hU
    by_cases hlt : k < n
    · have hkl : k < l.length := by rw [Hn.out]; exact hlt
      obtain ⟨ad, rfl, _, hc⟩ := hA k (.int .u8 l[k].toNat) (by simp [bv, hkl])
      generalize hcc : l[k].toNat = cc at hc
      have Hcc := Lib.hid hcc
      clear hcc
      have hc256 : cc < 256 := by rw [← Hcc.out]; exact l[k].toNat_lt
      by_cases h1 : k = 9 ∧ cc ≠ 1
      · obtain ⟨q1, q2⟩ := rdU_err1 hkl (by rw [Hcc.out]; exact h1)
        have HA : Hid (UvAns l (.returned (.tuple #[.int .u64 0, .int .i64 0, .int .i64 11]))) :=
          .inr ⟨by rw [Hr.out, q1]; rfl, .inr (by rw [He.out, q2]), by rw [He.out, q2]⟩
        have b1 : ((k : Int) == 9) = true := by simp; omega
        have b0 : (0 : Int) < k := by omega
        by_cases hz : cc = 0
        · have b2 : ((cc : Int) == 0) = true := by simp; omega
          have b3 : ¬ (1 : Int) < cc := by omega
          clear h1 q1 q2 hz
          go_wp2
          go_ret3
          exact ⟨HA.out, rfl⟩
        · have b3 : (1 : Int) < cc := by omega
          clear h1 q1 q2 hz
          go_wp2
          go_ret3
          exact ⟨HA.out, rfl⟩
      by_cases h2 : 0 < k ∧ cc = 0
      · obtain ⟨q1, q2⟩ := rdU_err2 hkl (by rw [Hcc.out]; exact h1) (by rw [Hcc.out]; exact h2)
        have HA : Hid (UvAns l (.returned (.tuple #[.int .u64 0, .int .i64 0, .int .i64 11]))) :=
          .inr ⟨by rw [Hr.out, q1]; rfl, .inr (by rw [He.out, q2]), by rw [He.out, q2]⟩
        have b1 : ((k : Int) == 9) = false := by simp; omega
        have b2 : ((cc : Int) == 0) = true := by simp; omega
        have b3 : (0 : Int) < k := by omega
        clear h1 h2 q1 q2
        go_wp2
        go_ret3
        exact ⟨HA.out, rfl⟩
      have b2 : Hid (k = 9 → cc = 1) := fun h => Classical.byContradiction fun hn => h1 ⟨h, hn⟩
      obtain ⟨_, hlt64⟩ := shl_or acc cc k hc256 hk10 Ha.out b2.out
      rw [← HU.out] at hlt64
      have hcm : cc % 128 < 128 := Nat.mod_lt _ (by omega)
      generalize hP : U * (cc % 128) = P at hlt64
      have HP := Lib.hid (show ((cc : Int) % 128) * (U : Int) = (P : Int) by rw [← hP, Int.natCast_mul, Int.mul_comm]; rfl)
      have HP2 := Lib.hid hP
      clear hP
      have hmul : ∀ x : Int, x = ((cc : Int) % 128) * (U : Int) → IntKind.u64.wrap x = P := fun x hx => by rw [hx, HP.out, IntKind.wrap_u64]; omega
      have hmul1 := hmul _ rfl
      have Hmul := Lib.hid hmul
      clear hmul
      by_cases h3 : cc < 128
      · obtain ⟨q1, q2⟩ := rdU_end hkl (by rw [Hcc.out]; exact h1) (by rw [Hcc.out]; exact h2) (by rw [Hcc.out]; exact h3)
        rw [Hcc.out] at q1
        have HA : Hid (UvAns l (.returned (.tuple #[.int .u64 ((acc : Int) + P), .int .i64 ((k : Int) + 1), .int .i64 0]))) :=
          .inl ⟨acc + P, k + 1, by rw [Hr.out, q1, ← HP2.out, HU.out, Nat.mod_eq_of_lt h3]; rfl, hlt64, by omega, by omega, by rw [He.out, q2], rfl⟩
        clear q1 q2
        by_cases hk9 : k = 9
        · have e1 := b2.out hk9
          have b1 : ((k : Int) == 9) = true := by simp; omega
          have b4 : ¬ (1 : Int) < cc := by omega
          have b3 : (0 : Int) < k := by omega
          have b5 : ((cc : Int) == 0) = false := by simp; omega
          clear hk9 e1 h1 h2
          go_wp2
          go_ret3
          exact ⟨HA.out, rfl⟩
        · have b1 : ((k : Int) == 9) = false := by simp; omega
          by_cases hk0 : 0 < k
          · have b3 : (0 : Int) < k := by omega
            have b5 : ((cc : Int) == 0) = false := by simp; omega
            clear h1 h2 hk9 hk0
            go_wp2
            go_ret3
            exact ⟨HA.out, rfl⟩
          · have b3 : ¬ (0 : Int) < k := by omega
            clear h1 h2 hk9 hk0
            go_wp2
            go_ret3
            exact ⟨HA.out, rfl⟩
      · have hk9 : k ≠ 9 := fun h => by have := b2.out h; omega
        obtain ⟨q1, q2⟩ := rdU_next hkl (by rw [Hcc.out]; exact h1) (by rw [Hcc.out]; exact h2) (by rw [Hcc.out]; exact h3)
        rw [Hcc.out] at q1
        have b1 : ((k : Int) == 9) = false := by simp; omega
        have b3 : ((cc : Int) == 0) = false := by simp; omega
        have Q := Lib.hid (And.intro q1 q2)
        have hU2 : U * 128 < 18446744073709551616 := by
          rw [HU.out, show 2 ^ (7 * k) * 128 = 2 ^ (7 * k + 7) by rw [Nat.pow_add]]
          exact Nat.lt_of_le_of_lt (Nat.pow_le_pow_right (by omega) (show 7 * k + 7 ≤ 63 by omega)) (by decide)
        have HT : Hid (acc + P < 2 ^ (7 * (k + 1)) ∧ U * 128 = 2 ^ (7 * (k + 1))) := by
          have h5 := Ha.out
          have h6 : (2 : Nat) ^ (7 * (k + 1)) = 2 ^ (7 * k) * 128 := by rw [show 7 * (k + 1) = 7 * k + 7 by omega, Nat.pow_add]
          have h7 : U * (cc % 128) + U ≤ U * 128 := by
            have h3 : U * (cc % 128) + U = U * (cc % 128 + 1) := by rw [Nat.mul_add, Nat.mul_one]
            rw [h3]; exact Nat.mul_le_mul_left _ (by omega)
          rw [HP2.out] at h7
          rw [← HU.out] at h5 h6
          show _ ∧ _
          omega
        clear h1 h2 q1 q2 b2
        by_cases hk0 : 0 < k
        all_goals
          go_wp2
          go_round
          case rel =>
            refine ⟨k + 1, acc + P, U * 128, by omega, by omega, by go_num, by go_num, by go_num, HT.out.2, HT.out.1, ?_, by rw [He.out, Q.out.2]⟩
            rw [Hr.out, Q.out.1, Option.map_map, ← HP2.out]
            congr 1
            funext x
            have h6 : (2 : Nat) ^ (7 * (k + 1)) = 2 ^ (7 * k) * 128 := by rw [show 7 * (k + 1) = 7 * k + 7 by omega, Nat.pow_add]
            have h7 : 2 ^ (7 * k) * (cc % 128 + 128 * x.1) = 2 ^ (7 * k) * (cc % 128) + 2 ^ (7 * (k + 1)) * x.1 := by rw [h6, Nat.mul_add, Nat.mul_assoc]
            simp only [Function.comp, Prod.mk.injEq]
            exact ⟨by rw [h7, HU.out, Nat.add_assoc], by omega⟩
          case measure => simp [intOf]; omega
    · obtain ⟨q1, q2⟩ := rdU_nil (k := k) (l := l) (by rw [Hn.out]; omega)
      have HA : Hid (UvAns l (.returned (.tuple #[.int .u64 0, .int .i64 0, .int .i64 10]))) :=
        .inr ⟨by rw [Hr.out, q1]; rfl, .inl (by rw [He.out, q2]), by rw [He.out, q2]⟩
      clear q1 q2
      go_wp2
      go_ret3
      exact ⟨HA.out, rfl⟩
end Go.Proofs.Ytifimeohdgnehaa
