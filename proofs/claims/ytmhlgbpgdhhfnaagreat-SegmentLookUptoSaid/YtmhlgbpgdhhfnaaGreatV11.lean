import Derived.Test.YtmhlgbpgdhhfnaaGreatV10
set_option linter.unusedVariables false
set_option linter.unusedSimpArgs false
namespace Go.Proofs.YtmhlgbpgdhhfnaaGreat
open Go.RowKit Go.Maps Sqz

/-! chronicleref2: same, Number, numberAt -/
set_option maxRecDepth 100000 in
set_option maxHeartbeats 2000000 in
theorem same2_any (A A' : Option Addr) (n c n' c' : Nat) (l l' : List UInt8) (w : World) (hA : Rd w w.heap.size A (bv l)) (hn : l.length = n) (hA' : Rd w w.heap.size A' (bv l')) (hn' : l'.length = n') (hmx : n ≤ 1000000000) (hmx' : n' ≤ 1000000000) :
    Calls Tryz.prog 58 #[.slice A n c, .slice A' n' c'] w fun e w' => e = .returned (.bool (decide (l = l'))) ∧ ∃ m, w' = w.drewN m := by
  go_enter Tryz.func58, Tryz.ntmps58
  by_cases hnn : n = n'
  · subst hnn
    have HA := Lib.hid hA
    have HA' := Lib.hid hA'
    have Hn := Lib.hid hn
    have Hn' := Lib.hid hn'
    clear hA hA' hn hn'
    go_wp2
    go_loopw [5] (fun v wr => ∃ (k x : Nat), k ≤ n ∧ v = .int .i64 k ∧ wr = w.drewN x ∧ l.take k = l'.take k) (fun v _ => n - (intOf v).toNat)
    case atStart => exact ⟨0, 0, Nat.zero_le _, rfl, rfl, rfl⟩
    case round =>
      obtain ⟨k, x, hk, rfl, rfl, htk⟩ := hrel
      have HT := Lib.hid htk
      clear htk
      by_cases hlt : k < n
      · have g1 : k < l.length := by rw [Hn.out]; exact hlt
        have g2 : k < l'.length := by rw [Hn'.out]; exact hlt
        obtain ⟨ad, rfl, had, p0⟩ := HA.out k (.int .u8 (l[k]'g1).toNat) (by simp [bv, g1])
        obtain ⟨ad', rfl, had', q0⟩ := HA'.out k (.int .u8 (l'[k]'g2).toNat) (by simp [bv, g2])
        by_cases he : l[k]'g1 = l'[k]'g2
        · have HE : Hid (l.take (k + 1) = l'.take (k + 1)) := by
            show _ = _
            rw [List.take_succ_eq_append_getElem g1, List.take_succ_eq_append_getElem g2, HT.out, he]
          rw [← he] at q0
          clear he
          generalize (l[k]'g1).toNat = y at p0 q0
          go_wp2
          go_quiet (fail)
          go_wp2
          go_roundw
          case rel => exact ⟨k + 1, _, by omega, by go_num, rfl, HE.out⟩
          case measure => simp [intOf]; omega
        have HE : Hid (decide (l = l') = false) := decide_eq_false fun e => he (by subst e; rfl)
        have hne : (l[k]'g1).toNat ≠ (l'[k]'g2).toNat := fun h => he (UInt8.toNat_inj.1 h)
        clear he
        generalize (l[k]'g1).toNat = y at p0 hne
        generalize (l'[k]'g2).toNat = z at q0 hne
        have h1 : ((y : Int) == (z : Int)) = false := by simp; omega
        have h2 : (y == z) = false := by simpa using hne
        clear hne
        go_wp2
        go_quiet (fail)
        go_wp2
        go_ret
        rw [HE.out]
        exact ⟨rfl, _, World.drewN_drewN ..⟩
      have HE : Hid (decide (l = l') = true) := by
        refine decide_eq_true ?_
        have := HT.out
        rwa [List.take_of_length_le (by rw [Hn.out]; omega), List.take_of_length_le (by rw [Hn'.out]; omega)] at this
      go_wp2
      go_ret
      rw [HE.out]
      exact ⟨rfl, _, rfl⟩
  have HE : Hid (decide (l = l') = false) := decide_eq_false fun e => hnn (by rw [← hn, ← hn', e])
  have h1 : ((n : Int) == (n' : Int)) = false := by simp; omega
  clear hA hA' hn hn'
  go_wp2
  go_ret
  rw [HE.out]
  exact ⟨rfl, 0, rfl⟩
set_option maxRecDepth 100000 in
set_option maxHeartbeats 1000000 in
theorem number2_any (n : Nat) (hn : n ≤ 1000000000) (w : World) :
    Calls Tryz.prog 91 #[.int .i64 n] w fun e w' => ∃ v, e = .returned v ∧ w'.ownsRow w.heap.size 5 1 v (uvar n).length (bv (uvar n)) ∧ Below w.heap.size w w' := by
  obtain ⟨i0, hi0, hz0, hs0, hy0⟩ := info_parts info_u8
  go_enter Tryz.func91, Tryz.ntmps91
  go_wp2
  go_loopw [0, 3] (fun v s wr => ∃ (f m : Nat) (done : List UInt8), f < 10 ∧ m < 2 ^ (7 * f + 1) ∧ v = .int .i64 m ∧ m ≤ 1000000000 ∧ wr.ownsRow w.heap.size 5 1 s done.length (bv done) ∧ Below w.heap.size w wr ∧ done.length + f = 9 ∧ uvar n = done ++ uvarF (f + 1) m) (fun v _ _ => (intOf v).toNat)
  case atStart => exact ⟨9, n, [], by omega, by omega, rfl, hn, nil_own _ _ _ _, Below.refl _ _, rfl, rfl⟩
  case round =>
    obtain ⟨f, m, done, hf, hm, rfl, hm9, hown, hb, hdl, hu⟩ := hrel
    have Hm := Lib.hid hm
    have Hu := Lib.hid hu
    have Hd := Lib.hid hdl
    clear hm hu hdl
    by_cases hlt : m < 128
    · have hu2 := Lib.hid (show uvar n = done ++ [UInt8.ofNat m] by rw [Hu.out, uvarF, if_pos hlt])
      go_wp2_with (at_builtin
                   refine wpList_app _ rfl (.tmp 15) (.tmp 18) _ rfl w.heap.size 5 i0 _ 1 1 Tryz.underlying22 hi0 hz0 hs0 hy0 rfl (by omega) _ done.length (bv done) rfl (hown.alloc _) _ _ 1 1 [.int .u8 (m : Int)] rfl rfl (rd_new _ _ _) (by simp [Value.oneCell']) (by have := Hd.out; unfold maxLen; omega) (by have := Hd.out; omega) (by have := hb.size; simp; omega) ?_
                   intro v1 w1 hown1 hg1 _
                   have Hown1 := Lib.hid hown1
                   have Hb1 := Lib.hid ((hb.alloc hb.size (.cells #[.int .u8 (m : Int)] 5)).grown hg1 (by have := hb.size; simp; omega) (fun k e => (hown.lt _ e).1))
                   clear hown1 hg1)
      go_ret
      refine ⟨v1, rfl, ?_, Hb1.out⟩
      rw [hu2.out, bv_app, List.length_append]
      have e : bv [UInt8.ofNat m] = [.int .u8 (m : Int)] := by simp [bv]; omega
      rw [e]; exact Hown1.out
    skip
    go_wp2_with (at_builtin
                 refine wpList_app1 _ rfl (.tmp 6) (.tmp 11) _ rfl w.heap.size 5 i0 _ 1 1 Tryz.underlying22 hi0 hz0 hs0 hy0 rfl (by omega) _ done.length (bv done) rfl (hown.alloc _) _ _ 1 1 [.int .u8 ((m : Int) % 128 + 128)] rfl rfl (rd_new _ _ _) (by simp [Value.oneCell']) (by have := Hd.out; unfold maxLen; omega) (by have := Hd.out; omega) (by have := hb.size; simp; omega) (by omega) ?_
                 intro g1 c1 w1 _ _ _ hown1 hg1 _
                 have Hown1 := Lib.hid hown1
                 have Hb1 := Lib.hid ((hb.alloc hb.size (.cells #[.int .u8 ((m : Int) % 128 + 128)] 5)).grown hg1 (by have := hb.size; simp; omega) (fun k e => (hown.lt _ e).1))
                 clear hown1 hg1)
    go_roundw
    case rel =>
      have hf0 : f ≠ 0 := by
        rintro rfl
        have := Hm.out
        simp at this; omega
      obtain ⟨f', rfl⟩ : ∃ f', f = f' + 1 := ⟨f - 1, by omega⟩
      refine ⟨f', m / 128, done ++ [UInt8.ofNat (m % 128 + 128)], by omega, ?_, by go_num, by omega, ?_, Hb1.out, ?_, ?_⟩
      · have := Hm.out
        rw [show 7 * (f' + 1) + 1 = (7 * f' + 1) + 7 by omega, Nat.pow_add] at this
        exact Nat.div_lt_of_lt_mul (by omega)
      · rw [bv_app, List.length_append]
        have e : bv [UInt8.ofNat (m % 128 + 128)] = [.int .u8 ((m : Int) % 128 + 128)] := by simp [bv]; omega
        rw [e]; exact Hown1.out
      · have := Hd.out
        simp; omega
      rw [Hu.out, uvarF, if_neg hlt, List.append_assoc]; rfl
    case measure => simp [intOf]; omega

def NmA (a : Nat) (R : Option (Nat × Nat)) : Value := match R with
  | some x => .tuple #[.int .i64 (x.1 : Nat), .int .i64 ((a + x.2 : Nat) : Int), .bool true]
  | none => .tuple #[.int .i64 0, .int .i64 a, .bool false]
set_option maxRecDepth 100000 in
set_option maxHeartbeats 2000000 in
theorem numAt_any (A : Option Addr) (n c : Nat) (b : List UInt8) (a : Nat) (w : World) (hA : Rd w w.heap.size A (bv b)) (hn : b.length = n) (hmx : n ≤ 1000000000) (ha : a ≤ n) :
    Calls Tryz.prog 78 #[.slice A n c, .int .i64 a] w fun e w' =>
      e = .returned (NmA a (nmE (b.drop a))) ∧ w = w' := by
  have HA := Lib.hid hA
  have Hn := Lib.hid hn
  generalize hR : nmE (b.drop a) = R
  have HR := Lib.hid hR
  clear hA hn hR
  go_enter Tryz.func78, Tryz.ntmps78
  go_wp2
  go_loop [7, 8, 9] (fun x y z => ∃ (k v u : Nat), k ≤ 3 ∧ x = .int .i64 v ∧ y = .int .i64 u ∧ z = .int .i64 k ∧ ((k = 0 ∧ u = 1 ∧ v = 0) ∨ (k = 1 ∧ u = 128 ∧ v < 128) ∨ (k = 2 ∧ u = 16384 ∧ v < 16384) ∨ (k = 3 ∧ u = 2097152 ∧ v < 2097152)) ∧ (nmU (3 - k) k (b.drop (a + k))).map (fun x => (v + u * x.1, k + x.2)) = R) (fun _ _ z => 3 - (intOf z).toNat)
  case atStart =>
    refine ⟨0, 0, 1, by omega, rfl, rfl, rfl, .inl ⟨rfl, rfl, rfl⟩, ?_⟩
    rw [← HR.out]
    show (nmU 3 0 (b.drop (a + 0))).map _ = nmU 3 0 (b.drop a)
    rw [Nat.add_zero]
    cases nmU 3 0 (b.drop a) with
    | none => rfl
    | some x => simp
  case round =>
    obtain ⟨k, v, u, hk, rfl, rfl, rfl, hku, hnm⟩ := hrel
    have hu : u ≤ 2097152 := by omega
    have hv : v < 2097152 := by omega
    have HN := Lib.hid hnm
    have HKU := Lib.hid hku
    clear hnm hku
    by_cases hlt : k < 3
    · obtain ⟨f, hf⟩ : ∃ f, 3 - k = f + 1 := ⟨2 - k, by omega⟩
      by_cases hin : a + k < n
      · have g1 : a + k < b.length := by rw [Hn.out]; exact hin
        obtain ⟨ad, rfl, had, p0⟩ := HA.out (a + k) (.int .u8 (b[a + k]'g1).toNat) (by simp [bv, g1])
        have HD : Hid (b.drop (a + k) = (b[a + k]'g1) :: b.drop (a + k + 1)) := drop_next g1
        have f1 : ((a : Int) + k).toNat = a + k := by omega
        have hy := (b[a + k]'g1).toNat_lt
        have HN2 := HN.out
        rw [HD.out, hf, nmU] at HN2
        generalize (b[a + k]'g1).toNat = y at p0 hy HN2
        clear HN HD
        have hyu : y * u ≤ 534773760 := Nat.mul_le_mul (show y ≤ 255 by omega) hu
        have hyi : (y : Int) * u = ((y * u : Nat) : Int) := (Int.natCast_mul y u).symm
        by_cases h128 : y < 128
        · rw [if_pos h128] at HN2
          by_cases hz : y = 0 ∧ 0 < k
          · rw [if_pos hz] at HN2
            have HE : Hid (R = none) := HN2.symm
            obtain ⟨rfl, hk0⟩ := hz
            clear HN2
            go_wp2
            go_ret3
            rw [HE.out]
            exact ⟨rfl, rfl⟩
          rw [if_neg hz] at HN2
          have HE : Hid (R = some (v + u * y, k + 1)) := HN2.symm
          clear HN2
          have e5 : ((v + u * y : Nat) : Int) = (v : Int) + ((y * u : Nat) : Int) := by rw [Int.natCast_add, Nat.mul_comm]
          have e6 : ((a + (k + 1) : Nat) : Int) = (a : Int) + k + 1 := by omega
          by_cases hy0 : y = 0
          · have hk0 : ¬ (0 : Int) < k := by omega
            have hy0' : ((y : Int) == 0) = true := by simp; omega
            clear hy0 hz
            generalize y * u = yu at *
            go_wp2
            go_ret3
            rw [HE.out]
            show _ = Ending.returned (.tuple #[.int .i64 ((v + u * y : Nat) : Int), .int .i64 ((a + (k + 1) : Nat) : Int), .bool true]) ∧ _
            rw [e5, e6]
            exact ⟨rfl, rfl⟩
          have hy0' : ((y : Int) == 0) = false := by simp; omega
          clear hy0 hz
          generalize y * u = yu at *
          go_wp2
          go_ret3
          rw [HE.out]
          show _ = Ending.returned (.tuple #[.int .i64 ((v + u * y : Nat) : Int), .int .i64 ((a + (k + 1) : Nat) : Int), .bool true]) ∧ _
          rw [e5, e6]
          exact ⟨rfl, rfl⟩
        rw [if_neg h128] at HN2
        have hyu2 : (y - 128) * u ≤ 266338304 := Nat.mul_le_mul (show y - 128 ≤ 127 by omega) hu
        have hyi2 : ((y : Int) - 128) * u = (((y - 128) * u : Nat) : Int) := by rw [Int.natCast_mul]; congr 1; omega
        have HN3 : Hid ((nmU (3 - (k + 1)) (k + 1) (b.drop (a + (k + 1)))).map (fun x => ((v + (y - 128) * u) + (u * 128) * x.1, (k + 1) + x.2)) = R) := by
          show _ = _
          rw [← HN2, show 3 - (k + 1) = f by omega, show a + (k + 1) = a + k + 1 by omega]
          cases nmU f (k + 1) (b.drop (a + k + 1)) with
          | none => rfl
          | some x =>
            simp only [Option.map_some]
            congr 2
            · rw [Nat.mul_add, Nat.mul_comm u (y - 128), ← Nat.mul_assoc, Nat.add_assoc]
            omega
        clear HN2
        have hkk : (k + 1 = 0 ∧ u * 128 = 1 ∧ v + (y - 128) * u = 0) ∨ (k + 1 = 1 ∧ u * 128 = 128 ∧ v + (y - 128) * u < 128) ∨ (k + 1 = 2 ∧ u * 128 = 16384 ∧ v + (y - 128) * u < 16384) ∨ (k + 1 = 3 ∧ u * 128 = 2097152 ∧ v + (y - 128) * u < 2097152) := by
          rcases HKU.out with ⟨rfl, rfl, rfl⟩ | ⟨rfl, rfl, h⟩ | ⟨rfl, rfl, h⟩ | ⟨rfl, rfl, h⟩ <;> omega
        have HKK := Lib.hid hkk
        clear hkk
        generalize (y - 128) * u = yu at *
        go_wp2
        go_round
        case rel => exact ⟨k + 1, v + yu, u * 128, by omega, by go_num, by go_num, by go_num, HKK.out, HN3.out⟩
        case measure => simp [intOf]; omega
      have HE : Hid (R = none) := by
        show _ = _
        rw [← HN.out, hf, List.drop_eq_nil_of_le (by rw [Hn.out]; omega)]; rfl
      have g0 : (n : Int) ≤ (a : Int) + k := by omega
      clear HN
      go_wp2
      go_ret3
      rw [HE.out]
      exact ⟨rfl, rfl⟩
    have hk3 : k = 3 := by omega
    have HE : Hid (R = none) := by show _ = _; rw [← HN.out, hk3]; rfl
    clear HN
    go_wp2
    go_ret3
    rw [HE.out]
    exact ⟨rfl, rfl⟩
end Go.Proofs.YtmhlgbpgdhhfnaaGreat
