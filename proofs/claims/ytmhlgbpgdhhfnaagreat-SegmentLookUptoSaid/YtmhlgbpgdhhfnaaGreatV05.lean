import Derived.Test.YtmhlgbpgdhhfnaaGreatV04
import Derived.Test.YtmhlgbpgdhhfnaaGreatV01
import Derived.StillTailTactics
import Derived.IntWalk
set_option linter.unusedVariables false
set_option linter.unusedSimpArgs false
namespace Go.Proofs.YtmhlgbpgdhhfnaaGreat
open Go.RowKit Go.Maps Sqz

/-! squeeze: the document's search. -/
set_option maxRecDepth 100000 in
set_option maxHeartbeats 1000000 in
theorem lenR_any (A : Option Addr) (c n : Nat) (t : List UInt8) (i d : Nat) (w : World) (hA : Rd w w.heap.size A (bv t)) (hn : t.length = n) (hi : i ≤ n) (hd : d ≤ i) (hmx : n ≤ 1000000000) :
    Calls Tryz.prog 98 #[.slice A n c, .int .i64 i, .int .i64 d] w fun e w' => e = .returned (.int .i64 (al t (i - d) i)) ∧ ∃ m, w' = w.drewN m := by
  go_enter Tryz.func98, Tryz.ntmps98
  go_wp2
  go_loopw [7] (fun v wr => ∃ (k x : Nat), k ≤ 258 ∧ v = .int .i64 k ∧ wr = w.drewN x ∧ al t (i - d) i = lcp t (i - d) i (258 - k) k)
    (fun v _ => 258 - (intOf v).toNat)
  case atStart => exact ⟨0, 0, by omega, rfl, rfl, rfl⟩
  case round =>
    obtain ⟨k, x, hk, rfl, rfl, hal⟩ := hrel
    have Hal := Lib.hid hal
    clear hal
    by_cases hlt : k < 258
    · have e1 : 258 - k = (257 - k) + 1 := by omega
      have d1 : decide ((k : Int) < 258) = true := decide_eq_true (by omega)
      have r1 : IntKind.i64.wrap ((i : Int) + k) = (i : Int) + k := IntWalk.i64_in _ (by omega)
      have r2 : IntKind.i64.wrap ((i : Int) + k - d) = (i : Int) + k - d := IntWalk.i64_in _ (by omega)
      by_cases hin : i + k < n
      · have Hn := Lib.hid hn
        have g1 : i + k < t.length := by omega
        have g2 : i + k - d < t.length := by omega
        obtain ⟨ad, rfl, had, p0⟩ := hA (i + k) (.int .u8 (t[i + k]'g1).toNat) (by simp [bv, g1])
        obtain ⟨ad', e, had', q0⟩ := hA (i + k - d) (.int .u8 (t[i + k - d]'g2).toNat) (by simp [bv, g2])
        cases e
        have f1 : ((i : Int) + k).toNat = i + k := by omega
        have f2 : ((i : Int) + k - d).toNat = i + k - d := by omega
        have f3 : (0 : Int) ≤ (i : Int) + k - d := by omega
        have f4 : (i : Int) + k - d < n := by omega
        have f5 : (i : Int) + k < n := by omega
        have f6 : (0 : Int) ≤ (i : Int) + k := by omega
        have d2 : decide ((i : Int) + k < n) = true := decide_eq_true (by omega)
        by_cases he : t[i + k]'g1 = t[i + k - d]'g2
        · have HE : Hid (al t (i - d) i = lcp t (i - d) i (257 - k) (k + 1)) := by
            show _ = _
            rw [Hal.out, e1, lcp, if_pos ⟨by omega, by rw [show i - d + k = i + k - d by omega, List.getElem?_eq_getElem (by omega), List.getElem?_eq_getElem (by omega), he]⟩]
          rw [← he] at q0
          clear he e1
          generalize (t[i + k]'g1).toNat = y at p0 q0
          go_wp2
          go_quiet (fail)
          go_wp2
          go_roundw
          case rel => exact ⟨k + 1, _, by omega, by go_num, rfl, by rw [show 258 - (k + 1) = 257 - k by omega]; exact HE.out⟩
          case measure => simp [intOf]; omega
        have HE : Hid (al t (i - d) i = k) := by
          show _ = _
          rw [Hal.out, e1, lcp, if_neg]
          rintro ⟨_, h2⟩
          rw [show i - d + k = i + k - d by omega, List.getElem?_eq_getElem (by omega), List.getElem?_eq_getElem (by omega)] at h2
          exact he (Option.some.inj h2).symm
        have hne : (t[i + k]'g1).toNat ≠ (t[i + k - d]'g2).toNat := fun h => he (UInt8.toNat_inj.1 h)
        clear he e1
        generalize (t[i + k]'g1).toNat = y at p0 hne
        generalize (t[i + k - d]'g2).toNat = z at q0 hne
        have h1 : ((y : Int) == (z : Int)) = false := by simp; omega
        have h2 : (y == z) = false := by simpa using hne
        clear hne
        go_wp2
        go_quiet (fail)
        go_wp2
        go_ret
        rw [HE.out]
        exact ⟨rfl, _, World.drewN_drewN ..⟩
      have HE : Hid (al t (i - d) i = k) := by
        show _ = _
        rw [Hal.out, e1, lcp, if_neg]
        rintro ⟨h2, _⟩
        omega
      have d2 : decide ((i : Int) + k < n) = false := decide_eq_false (by omega)
      clear hn e1
      go_wp2
      go_quiet (fail)
      go_wp2
      go_ret
      rw [HE.out]
      exact ⟨rfl, _, World.drewN_drewN ..⟩
    obtain rfl : k = 258 := by omega
    have HE : Hid (al t (i - d) i = 258) := by
      show _ = _
      rw [Hal.out]; rfl
    have d1 : decide (((258 : Nat) : Int) < 258) = false := by decide
    go_wp2
    go_quiet (fail)
    go_wp2
    go_ret
    rw [HE.out]
    exact ⟨rfl, _, World.drewN_drewN ..⟩
end Go.Proofs.YtmhlgbpgdhhfnaaGreat
namespace Go.Proofs.YtmhlgbpgdhhfnaaGreat
open Go.RowKit Go.Maps Sqz

/-! squeeze: the finder. -/
set_option maxRecDepth 100000 in
set_option maxHeartbeats 1000000 in
theorem alike_any (A : Option Addr) (c n : Nat) (t : List UInt8) (i q : Nat) (w : World) (p : Nat) (hp : w.cell? ⟨p, 0, none⟩ = some (.slice A n c)) (hA : Rd w w.heap.size A (bv t)) (hn : t.length = n) (hi : i ≤ n) (hq : q ≤ i) (hmx : n ≤ 1000000000) :
    Calls Tryz.prog 104 #[.pointer (some ⟨p, 0, none⟩), .int .i64 q, .int .i64 i] w fun e w' => e = .returned (.int .i64 (al t q i)) ∧ ∃ m, w' = w.drewN m := by
  go_enter Tryz.func104, Tryz.ntmps104
  go_wp2
  go_loopw [7] (fun v wr => ∃ (k x : Nat), k ≤ 258 ∧ v = .int .i64 k ∧ wr = w.drewN x ∧ al t q i = lcp t q i (258 - k) k)
    (fun v _ => 258 - (intOf v).toNat)
  case atStart => exact ⟨0, 0, by omega, rfl, rfl, rfl⟩
  case round =>
    obtain ⟨k, x, hk, rfl, rfl, hal⟩ := hrel
    have Hal := Lib.hid hal
    clear hal
    by_cases hlt : k < 258
    · have e1 : 258 - k = (257 - k) + 1 := by omega
      have d1 : decide ((k : Int) < 258) = true := decide_eq_true (by omega)
      have r1 : IntKind.i64.wrap ((i : Int) + k) = (i : Int) + k := IntWalk.i64_in _ (by omega)
      have r2 : IntKind.i64.wrap ((q : Int) + k) = (q : Int) + k := IntWalk.i64_in _ (by omega)
      by_cases hin : i + k < n
      · have Hn := Lib.hid hn
        have g1 : i + k < t.length := by omega
        have g2 : q + k < t.length := by omega
        obtain ⟨ad, rfl, had, p0⟩ := hA (i + k) (.int .u8 (t[i + k]'g1).toNat) (by simp [bv, g1])
        obtain ⟨ad', e, had', q0⟩ := hA (q + k) (.int .u8 (t[q + k]'g2).toNat) (by simp [bv, g2])
        cases e
        have f1 : ((i : Int) + k).toNat = i + k := by omega
        have f2 : ((q : Int) + k).toNat = q + k := by omega
        have f3 : (0 : Int) ≤ (q : Int) + k := by omega
        have f4 : (q : Int) + k < n := by omega
        have f5 : (i : Int) + k < n := by omega
        have f6 : (0 : Int) ≤ (i : Int) + k := by omega
        have d2 : decide ((i : Int) + k < n) = true := decide_eq_true (by omega)
        by_cases he : t[i + k]'g1 = t[q + k]'g2
        · have HE : Hid (al t q i = lcp t q i (257 - k) (k + 1)) := by
            show _ = _
            rw [Hal.out, e1, lcp, if_pos ⟨by omega, by rw [List.getElem?_eq_getElem (by omega), List.getElem?_eq_getElem (by omega), he]⟩]
          rw [← he] at q0
          clear he e1
          generalize (t[i + k]'g1).toNat = y at p0 q0
          go_wp2
          go_quiet (fail)
          go_wp2
          go_roundw
          case rel => exact ⟨k + 1, _, by omega, by go_num, rfl, by rw [show 258 - (k + 1) = 257 - k by omega]; exact HE.out⟩
          case measure => simp [intOf]; omega
        have HE : Hid (al t q i = k) := by
          show _ = _
          rw [Hal.out, e1, lcp, if_neg]
          rintro ⟨_, h2⟩
          rw [List.getElem?_eq_getElem (by omega), List.getElem?_eq_getElem (by omega)] at h2
          exact he (Option.some.inj h2).symm
        have hne : (t[i + k]'g1).toNat ≠ (t[q + k]'g2).toNat := fun h => he (UInt8.toNat_inj.1 h)
        clear he e1
        generalize (t[i + k]'g1).toNat = y at p0 hne
        generalize (t[q + k]'g2).toNat = z at q0 hne
        have h1 : ((y : Int) == (z : Int)) = false := by simp; omega
        have h2 : (y == z) = false := by simpa using hne
        clear hne
        go_wp2
        go_quiet (fail)
        go_wp2
        go_ret
        rw [HE.out]
        exact ⟨rfl, _, World.drewN_drewN ..⟩
      have HE : Hid (al t q i = k) := by
        show _ = _
        rw [Hal.out, e1, lcp, if_neg]
        rintro ⟨h2, _⟩
        omega
      have d2 : decide ((i : Int) + k < n) = false := decide_eq_false (by omega)
      clear hn e1
      go_wp2
      go_quiet (fail)
      go_wp2
      go_ret
      rw [HE.out]
      exact ⟨rfl, _, World.drewN_drewN ..⟩
    obtain rfl : k = 258 := by omega
    have HE : Hid (al t q i = 258) := by
      show _ = _
      rw [Hal.out]; rfl
    have d1 : decide (((258 : Nat) : Int) < 258) = false := by decide
    go_wp2
    go_quiet (fail)
    go_wp2
    go_ret
    rw [HE.out]
    exact ⟨rfl, _, World.drewN_drewN ..⟩
end Go.Proofs.YtmhlgbpgdhhfnaaGreat
namespace Go.Proofs.YtmhlgbpgdhhfnaaGreat
open Go.RowKit Go.Maps Sqz

/-! chronicleref2.best -/
set_option maxRecDepth 100000 in
set_option maxHeartbeats 2000000 in
theorem bestR_any (A : Option Addr) (c n : Nat) (t : List UInt8) (i : Nat) (w : World) (hA : Rd w w.heap.size A (bv t)) (hn : t.length = n) (hi : i ≤ n) (hmx : n ≤ 1000000000) :
    Calls Tryz.prog 92 #[.slice A n c, .int .i64 i] w fun e w' => e = .returned (.tuple #[.int .i64 (bestR t i).1, .int .i64 (bestR t i).2]) ∧ ∃ m, w' = w.drewN m := by
  go_enter Tryz.func92, Tryz.ntmps92
  go_wp2
  go_loopw [6, 7, 8] (fun u v z wr => ∃ (m a d x f : Nat), u = .int .i64 m ∧ v = .int .i64 a ∧ z = .int .i64 d ∧ wr = w.drewN x ∧ 1 ≤ d ∧ f + d = 2049 ∧ m ≤ 258 ∧ a ≤ 2048 ∧ tryD t i 2048 1 (0, 0) = tryD t i f d (m, a))
    (fun _ _ z _ => 2049 - (intOf z).toNat)
  case atStart => exact ⟨0, 0, 1, 0, 2048, rfl, rfl, rfl, rfl, by omega, rfl, by omega, by omega, rfl⟩
  case round =>
    obtain ⟨m, a, d, x, f, rfl, rfl, rfl, rfl, hd, hf, hm, ha, htr⟩ := hrel
    have HT := Lib.hid htr
    clear htr
    by_cases hdi : d ≤ i
    · by_cases hd2 : d ≤ 2048
      · obtain ⟨f', rfl⟩ : ∃ f', f = f' + 1 := ⟨f - 1, by omega⟩
        have HC := Lib.hid (lenR_any A c n t i d (w.drewN x) (hA.keep fun _ _ => rfl) hn hi hdi hmx)
        have hL := al_le t (i - d) i
        have hI := al_in t (i - d) i (by omega)
        have HT1 : Hid (tryD t i 2048 1 (0, 0) = if (if m < al t (i - d) i then (al t (i - d) i, d) else (m, a)).1 = 258 ∨ i + (if m < al t (i - d) i then (al t (i - d) i, d) else (m, a)).1 = n then (if m < al t (i - d) i then (al t (i - d) i, d) else (m, a)) else tryD t i f' (d + 1) (if m < al t (i - d) i then (al t (i - d) i, d) else (m, a))) := by
          show _ = _
          rw [HT.out, tryD, if_pos ⟨hdi, hd2⟩, hn]
        clear HT
        generalize al t (i - d) i = L at *
        by_cases hml : m < L
        · have HT : Hid (tryD t i 2048 1 (0, 0) = if L = 258 ∨ i + L = n then (L, d) else tryD t i f' (d + 1) (L, d)) := by
            show _ = _
            rw [HT1.out, if_pos hml]
          clear HT1
          by_cases q1 : L = 258
          · have HE : Hid (tryD t i 2048 1 (0, 0) = (L, d)) := HT.out.trans (if_pos (.inl q1))
            have e1 : ((L : Nat) : Int) = 258 := by omega
            have e2 : (((L : Nat) : Int) == 258) = true := by simp [e1]
            clear HT
            have H5 : Hid (bestR t i = (L, d)) := by
              show _ = _
              rw [bestR, HE.out]; exact if_neg (by show ¬ L < 5; omega)
            clear q1
            go_wp2_with (go_at_call 98; refine HC.out.mono ?_; rintro e w' ⟨rfl, y, rfl⟩)
            go_ret2
            rw [H5.out]
            simp only [e1]
            exact ⟨rfl, _, by first | rfl | exact World.drewN_drewN ..⟩
          have e2 : (((L : Nat) : Int) == 258) = false := by simp; omega
          by_cases q2 : i + L = n
          · have HE : Hid (tryD t i 2048 1 (0, 0) = (L, d)) := HT.out.trans (if_pos (.inr q2))
            have e3 : ((i : Int) + L == n) = true := by simp; omega
            have e4 : (i : Int) + L = n := by omega
            clear HT
            by_cases h5 : L < 5
            · have H5 : Hid (bestR t i = (0, 0)) := by
                show _ = _
                rw [bestR, HE.out]; exact if_pos h5
              go_wp2_with (go_at_call 98; refine HC.out.mono ?_; rintro e w' ⟨rfl, y, rfl⟩)
              go_ret2
              rw [H5.out]
              exact ⟨rfl, _, by first | rfl | exact World.drewN_drewN ..⟩
            have H5 : Hid (bestR t i = (L, d)) := by
              show _ = _
              rw [bestR, HE.out]; exact if_neg h5
            go_wp2_with (go_at_call 98; refine HC.out.mono ?_; rintro e w' ⟨rfl, y, rfl⟩)
            go_ret2
            rw [H5.out]
            exact ⟨rfl, _, by first | rfl | exact World.drewN_drewN ..⟩
          have HE : Hid (tryD t i 2048 1 (0, 0) = tryD t i f' (d + 1) (L, d)) := HT.out.trans (if_neg (by rintro (h | h); exact q1 h; exact q2 h))
          have e3 : ((i : Int) + L == n) = false := by simp; omega
          clear HT
          go_wp2_with (go_at_call 98; refine HC.out.mono ?_; rintro e w' ⟨rfl, y, rfl⟩)
          go_roundw
          case rel => exact ⟨L, d, d + 1, _, f', by go_num, by go_num, by go_num, by first | rfl | exact World.drewN_drewN .., by omega, by omega, by omega, by omega, HE.out⟩
          case measure => simp [intOf]; omega
        have HT : Hid (tryD t i 2048 1 (0, 0) = if m = 258 ∨ i + m = n then (m, a) else tryD t i f' (d + 1) (m, a)) := by
          show _ = _
          rw [HT1.out, if_neg hml]
        clear HT1
        by_cases q1 : m = 258
        · have HE : Hid (tryD t i 2048 1 (0, 0) = (m, a)) := HT.out.trans (if_pos (.inl q1))
          have e1 : ((m : Nat) : Int) = 258 := by omega
          have e2 : (((m : Nat) : Int) == 258) = true := by simp [e1]
          clear HT
          have H5 : Hid (bestR t i = (m, a)) := by
            show _ = _
            rw [bestR, HE.out]; exact if_neg (by show ¬ m < 5; omega)
          clear q1
          go_wp2_with (go_at_call 98; refine HC.out.mono ?_; rintro e w' ⟨rfl, y, rfl⟩)
          go_ret2
          rw [H5.out]
          simp only [e1]
          exact ⟨rfl, _, by first | rfl | exact World.drewN_drewN ..⟩
        have e2 : (((m : Nat) : Int) == 258) = false := by simp; omega
        by_cases q2 : i + m = n
        · have HE : Hid (tryD t i 2048 1 (0, 0) = (m, a)) := HT.out.trans (if_pos (.inr q2))
          have e3 : ((i : Int) + m == n) = true := by simp; omega
          have e4 : (i : Int) + m = n := by omega
          clear HT
          by_cases h5 : m < 5
          · have H5 : Hid (bestR t i = (0, 0)) := by
              show _ = _
              rw [bestR, HE.out]; exact if_pos h5
            go_wp2_with (go_at_call 98; refine HC.out.mono ?_; rintro e w' ⟨rfl, y, rfl⟩)
            go_ret2
            rw [H5.out]
            exact ⟨rfl, _, by first | rfl | exact World.drewN_drewN ..⟩
          have H5 : Hid (bestR t i = (m, a)) := by
            show _ = _
            rw [bestR, HE.out]; exact if_neg h5
          go_wp2_with (go_at_call 98; refine HC.out.mono ?_; rintro e w' ⟨rfl, y, rfl⟩)
          go_ret2
          rw [H5.out]
          exact ⟨rfl, _, by first | rfl | exact World.drewN_drewN ..⟩
        have HE : Hid (tryD t i 2048 1 (0, 0) = tryD t i f' (d + 1) (m, a)) := HT.out.trans (if_neg (by rintro (h | h); exact q1 h; exact q2 h))
        have e3 : ((i : Int) + m == n) = false := by simp; omega
        clear HT
        go_wp2_with (go_at_call 98; refine HC.out.mono ?_; rintro e w' ⟨rfl, y, rfl⟩)
        go_roundw
        case rel => exact ⟨m, a, d + 1, _, f', by go_num, by go_num, by go_num, by first | rfl | exact World.drewN_drewN .., by omega, by omega, by omega, by omega, HE.out⟩
        case measure => simp [intOf]; omega
      obtain rfl : f = 0 := by omega
      have HE : Hid (tryD t i 2048 1 (0, 0) = (m, a)) := HT.out
      by_cases h5 : m < 5
      · have H5 : Hid (bestR t i = (0, 0)) := by
          show _ = _
          rw [bestR, HE.out]; exact if_pos h5
        go_wp2
        go_ret2
        rw [H5.out]
        exact ⟨rfl, _, by first | rfl | exact World.drewN_drewN ..⟩
      have H5 : Hid (bestR t i = (m, a)) := by
        show _ = _
        rw [bestR, HE.out]; exact if_neg h5
      go_wp2
      go_ret2
      rw [H5.out]
      exact ⟨rfl, _, by first | rfl | exact World.drewN_drewN ..⟩
    have HE : Hid (tryD t i 2048 1 (0, 0) = (m, a)) := by
      show _ = _
      rw [HT.out]
      cases f with
      | zero => rfl
      | succ f => rw [tryD, if_neg (by omega)]
    by_cases h5 : m < 5
    · have H5 : Hid (bestR t i = (0, 0)) := by
        show _ = _
        rw [bestR, HE.out]; exact if_pos h5
      go_wp2
      go_ret2
      rw [H5.out]
      exact ⟨rfl, _, by first | rfl | exact World.drewN_drewN ..⟩
    have H5 : Hid (bestR t i = (m, a)) := by
      show _ = _
      rw [bestR, HE.out]; exact if_neg h5
    go_wp2
    go_ret2
    rw [H5.out]
    exact ⟨rfl, _, by first | rfl | exact World.drewN_drewN ..⟩
end Go.Proofs.YtmhlgbpgdhhfnaaGreat
namespace Go.Proofs.YtmhlgbpgdhhfnaaGreat
open Go.RowKit Go.Maps Sqz

/-! squeeze.finder: the number of the bytes at a place -/
def foldN (t : List UInt8) : Nat := t.foldl (fun n c => (n * 31 + c.toNat) % 4294967296) 0
theorem foldN_snoc (t : List UInt8) (c : UInt8) : foldN (t ++ [c]) = (foldN t * 31 + c.toNat) % 4294967296 := by simp [foldN, List.foldl_append]
theorem foldN_lt (t : List UInt8) : foldN t < 4294967296 := by
  rcases List.eq_nil_or_concat t with rfl | ⟨l, c, rfl⟩
  · decide
  rw [List.concat_eq_append, foldN_snoc]; omega
set_option maxRecDepth 100000 in
set_option maxHeartbeats 1000000 in
theorem number_any (ad : Addr) (c n : Nat) (t : List UInt8) (i : Nat) (w : World) (p : Nat) (hp : w.cell? ⟨p, 0, none⟩ = some (.slice (some ad) n c)) (hA : Rd w w.heap.size (some ad) (bv t)) (hn : t.length = n) (hi : i + 5 ≤ n) (hc : n ≤ c) (hmx : n ≤ 1000000000) :
    Calls Tryz.prog 103 #[.pointer (some ⟨p, 0, none⟩), .int .i64 i] w fun e w' => e = .returned (.int .i64 (numb t i)) ∧ w = w' := by
  have hsl := run_part (t := 22) (ht := Tryz.underlying22) (hs := sizeU8) (b := some ad) (len := n) (cap := c) (k := i) (m := 5) (h := (i : Int) + 5) (hh := rfl) (hm := Nat.le_trans hi hc)
  have hL : ((t.drop i).take 5).length = 5 := by simp; omega
  have hB : Rd w w.heap.size (tailA (some ad) c i) (bv ((t.drop i).take 5)) := (hA.tail_ (cap := c) i (show t.length ≤ c by omega)).take_ 5
  have HR : Hid (numb t i = foldN ((t.drop i).take 5) % 1024) := rfl
  generalize (t.drop i).take 5 = L at *
  have g0 : 0 < L.length := by omega
  obtain ⟨ab, eb, hab, _⟩ := hB 0 (.int .u8 (L[0]'g0).toNat) (by simp [bv, g0])
  generalize tailA (some ad) c i = B at *
  subst eb
  clear hA
  go_enter Tryz.func103, Tryz.ntmps103
  go_wp2
  go_loop [5, 17] (fun u v => ∃ (k : Nat), k ≤ 5 ∧ v = .int .i64 k ∧ u = .int .u32 (foldN (L.take k))) (fun _ v => 5 - (intOf v).toNat)
  case atStart => exact ⟨0, by omega, rfl, rfl⟩
  case round =>
    obtain ⟨k, hk, rfl, rfl⟩ := hrel
    have hf := foldN_lt (L.take k)
    by_cases hlt : k < 5
    · have g1 : k < L.length := by omega
      obtain ⟨_, e, _, p0⟩ := hB k (.int .u8 (L[k]'g1).toNat) (by simp [bv, g1])
      cases e
      have HF : Hid (foldN (L.take (k + 1)) = (foldN (L.take k) * 31 + (L[k]'g1).toNat) % 4294967296) := by
        show _ = _
        rw [List.take_succ_eq_append_getElem g1, foldN_snoc]
      have hy := (L[k]'g1).toNat_lt
      generalize (L[k]'g1).toNat = y at p0 HF hy
      generalize foldN (L.take k) = v at *
      go_wp2
      go_round
      case rel =>
        refine ⟨k + 1, by omega, by go_num, ?_⟩
        rw [HF.out]

        congr 1
        omega
      case measure => simp [intOf]; omega
    obtain rfl : k = 5 := by omega
    have hr := HR.out
    rw [List.take_of_length_le (by omega)] at hf ⊢
    go_wp2
    go_ret
    exact ⟨rfl, rfl⟩
end Go.Proofs.YtmhlgbpgdhhfnaaGreat
namespace Go.Proofs.YtmhlgbpgdhhfnaaGreat
open Go.RowKit Go.Maps Sqz

/-! right, of both sides -/
def rgt (n d m q : Nat) : Bool := if 0 < n then decide (d = 0 ∧ m = 0) else decide (5 ≤ m ∧ m ≤ 258 ∧ 1 ≤ d ∧ d ≤ 2048 ∧ d ≤ q)
set_option maxRecDepth 100000 in
set_option maxHeartbeats 1000000 in
theorem right_any (A : Option Addr) (c n d m q : Nat) (w : World) (hn : n ≤ 1000000000) (hd : d ≤ 1000000000) (hm : m ≤ 1000000000) (hq : q ≤ 1000000000) :
    Calls Tryz.prog 94 #[.agg #[.slice A n c, .int .i64 d, .int .i64 m], .int .i64 q] w fun e w' => e = .returned (.bool (rgt n d m q)) ∧ Below w.heap.size w w' := by
  have HR : Hid (rgt n d m q = if 0 < n then decide (d = 0 ∧ m = 0) else decide (5 ≤ m ∧ m ≤ 258 ∧ 1 ≤ d ∧ d ≤ 2048 ∧ d ≤ q)) := rfl
  go_enter Tryz.func94, Tryz.ntmps94
  by_cases h0 : 0 < n
  · have HE : Hid (rgt n d m q = decide (d = 0 ∧ m = 0)) := HR.out.trans (if_pos h0)
    by_cases h1 : d = 0
    · subst h1
      by_cases h2 : m = 0
      · subst h2
        go_wp2
        go_ret
        rw [HE.out]
        exact ⟨rfl, (Below.refl _ _).alloc (Nat.le_refl _) _⟩
      have h3 : ((m : Int) == 0) = false := by simpa using h2
      go_wp2
      go_ret
      rw [HE.out]
      exact ⟨ret_bool (by simp [h2]), (Below.refl _ _).alloc (Nat.le_refl _) _⟩
    have h3 : ((d : Int) == 0) = false := by simpa using h1
    go_wp2
    go_ret
    rw [HE.out]
    exact ⟨ret_bool (by simp [h1]), (Below.refl _ _).alloc (Nat.le_refl _) _⟩
  have HE : Hid (rgt n d m q = decide (5 ≤ m ∧ m ≤ 258 ∧ 1 ≤ d ∧ d ≤ 2048 ∧ d ≤ q)) := HR.out.trans (if_neg h0)
  by_cases h1 : 5 ≤ m
  · by_cases h2 : m ≤ 258
    · by_cases h3 : 1 ≤ d
      · by_cases h4 : d ≤ 2048
        · by_cases h5 : d ≤ q
          · go_wp2
            go_ret
            rw [HE.out]
            exact ⟨ret_bool (by simp; omega), (Below.refl _ _).alloc (Nat.le_refl _) _⟩
          go_wp2
          go_ret
          rw [HE.out]
          exact ⟨ret_bool (by simp; omega), (Below.refl _ _).alloc (Nat.le_refl _) _⟩
        go_wp2
        go_ret
        rw [HE.out]
        exact ⟨ret_bool (by simp; omega), (Below.refl _ _).alloc (Nat.le_refl _) _⟩
      go_wp2
      go_ret
      rw [HE.out]
      exact ⟨ret_bool (by simp; omega), (Below.refl _ _).alloc (Nat.le_refl _) _⟩
    go_wp2
    go_ret
    rw [HE.out]
    exact ⟨ret_bool (by simp; omega), (Below.refl _ _).alloc (Nat.le_refl _) _⟩
  go_wp2
  go_ret
  rw [HE.out]
  exact ⟨ret_bool (by simp; omega), (Below.refl _ _).alloc (Nat.le_refl _) _⟩
set_option maxRecDepth 100000 in
set_option maxHeartbeats 1000000 in
theorem rightR_any (A : Option Addr) (c n d m q : Nat) (w : World) (hn : n ≤ 1000000000) (hd : d ≤ 1000000000) (hm : m ≤ 1000000000) (hq : q ≤ 1000000000) :
    Calls Tryz.prog 80 #[.agg #[.slice A n c, .int .i64 d, .int .i64 m], .int .i64 q] w fun e w' => e = .returned (.bool (rgt n d m q)) ∧ Below w.heap.size w w' := by
  have HR : Hid (rgt n d m q = if 0 < n then decide (d = 0 ∧ m = 0) else decide (5 ≤ m ∧ m ≤ 258 ∧ 1 ≤ d ∧ d ≤ 2048 ∧ d ≤ q)) := rfl
  go_enter Tryz.func80, Tryz.ntmps80
  by_cases h0 : 0 < n
  · have HE : Hid (rgt n d m q = decide (d = 0 ∧ m = 0)) := HR.out.trans (if_pos h0)
    by_cases h1 : d = 0
    · subst h1
      by_cases h2 : m = 0
      · subst h2
        go_wp2
        go_ret
        rw [HE.out]
        exact ⟨rfl, (Below.refl _ _).alloc (Nat.le_refl _) _⟩
      have h3 : ((m : Int) == 0) = false := by simpa using h2
      go_wp2
      go_ret
      rw [HE.out]
      exact ⟨ret_bool (by simp [h2]), (Below.refl _ _).alloc (Nat.le_refl _) _⟩
    have h3 : ((d : Int) == 0) = false := by simpa using h1
    go_wp2
    go_ret
    rw [HE.out]
    exact ⟨ret_bool (by simp [h1]), (Below.refl _ _).alloc (Nat.le_refl _) _⟩
  have HE : Hid (rgt n d m q = decide (5 ≤ m ∧ m ≤ 258 ∧ 1 ≤ d ∧ d ≤ 2048 ∧ d ≤ q)) := HR.out.trans (if_neg h0)
  by_cases h1 : 5 ≤ m
  · by_cases h2 : m ≤ 258
    · by_cases h3 : 1 ≤ d
      · by_cases h4 : d ≤ 2048
        · by_cases h5 : d ≤ q
          · go_wp2
            go_ret
            rw [HE.out]
            exact ⟨ret_bool (by simp; omega), (Below.refl _ _).alloc (Nat.le_refl _) _⟩
          go_wp2
          go_ret
          rw [HE.out]
          exact ⟨ret_bool (by simp; omega), (Below.refl _ _).alloc (Nat.le_refl _) _⟩
        go_wp2
        go_ret
        rw [HE.out]
        exact ⟨ret_bool (by simp; omega), (Below.refl _ _).alloc (Nat.le_refl _) _⟩
      go_wp2
      go_ret
      rw [HE.out]
      exact ⟨ret_bool (by simp; omega), (Below.refl _ _).alloc (Nat.le_refl _) _⟩
    go_wp2
    go_ret
    rw [HE.out]
    exact ⟨ret_bool (by simp; omega), (Below.refl _ _).alloc (Nat.le_refl _) _⟩
  go_wp2
  go_ret
  rw [HE.out]
  exact ⟨ret_bool (by simp; omega), (Below.refl _ _).alloc (Nat.le_refl _) _⟩
theorem rgt_tok (k : Tok) (q : Nat) : rgt k.lit.length k.dist k.len q = rightT k q := by
  unfold rgt rightT
  cases h : k.lit with
  | nil => simp
  | cons x r => simp
end Go.Proofs.YtmhlgbpgdhhfnaaGreat
namespace Go.Proofs.YtmhlgbpgdhhfnaaGreat
open Go.RowKit Go.Maps Sqz

/-! finder.passes: NOT YET A PROOF -/
/-- The finder in memory: the text's header, the two tables. -/
def FD (w : World) (p : Nat) (ad : Addr) (n c : Nat) (last ahead : Nat → Nat) : Prop :=
  ∃ ar : Array Value, Box w p 127 ar ∧ ar.size = 5121 ∧ ar[0]? = some (.slice (some ad) n c) ∧ (∀ h, h < 1024 → ar[1 + h]? = some (.int .i64 (last h))) ∧ ∀ j, j < 4096 → ar[1025 + j]? = some (.int .i64 (ahead j))
section
variable {w w' : World} {p : Nat} {ad : Addr} {n c : Nat} {last ahead : Nat → Nat}
theorem FD.lt (h : FD w p ad n c last ahead) : p < w.heap.size := let ⟨_, h, _⟩ := h; h.lt
theorem FD.text (h : FD w p ad n c last ahead) : w.cell? ⟨p, 0, none⟩ = some (.slice (some ad) n c) := let ⟨_, h, _, h0, _⟩ := h; (h.cell 0).trans h0
theorem FD.lastc (h : FD w p ad n c last ahead) (q : Nat) (hq : q < 1024) : w.cell? ⟨p, 1 + q, none⟩ = some (.int .i64 (last q)) := let ⟨_, h, _, _, h1, _⟩ := h; (h.cell _).trans (h1 q hq)
theorem FD.aheadc (h : FD w p ad n c last ahead) (i : Nat) (hi : i < 4096) : w.cell? ⟨p, 1025 + i, none⟩ = some (.int .i64 (ahead i)) := let ⟨_, h, _, _, _, h2⟩ := h; (h.cell _).trans (h2 i hi)
theorem FD.free (h : FD w p ad n c last ahead) (j : Nat) : w.frozen? ⟨p, j, none⟩ = false := let ⟨_, h, _⟩ := h; h.free j
theorem FD.put (h : FD w p ad n c last ahead) {q i a b : Nat} (hq : q < 1024) (hi : i < 4096) :
    FD ((w.setCell ⟨p, 1025 + i, none⟩ (.int .i64 a)).setCell ⟨p, 1 + q, none⟩ (.int .i64 b)).drew p ad n c (fun h => if h = q then b else last h) (fun j => if j = i then a else ahead j) := by
  obtain ⟨ar, hb, hs, h0, h1, h2⟩ := h
  refine ⟨_, ((hb.set_ (1025 + i) (.int .i64 a)).set_ (1 + q) (.int .i64 b)).drew, by simp [hs], ?_, fun k hk => ?_, fun k hk => ?_⟩
  · rw [Array.getElem?_setIfInBounds, if_neg (by omega), Array.getElem?_setIfInBounds, if_neg (by omega)]; exact h0
  · rw [Array.getElem?_setIfInBounds]
    by_cases e : k = q
    · subst e; simp [hs]; omega
    rw [if_neg (by omega), Array.getElem?_setIfInBounds, if_neg (by omega)]; simp only [if_neg e]; exact h1 k hk
  rw [Array.getElem?_setIfInBounds, if_neg (by omega), Array.getElem?_setIfInBounds]
  by_cases e : k = i
  · subst e; simp [hs]; omega
  rw [if_neg (by omega)]; simp only [if_neg e]; exact h2 k hk
end
set_option maxRecDepth 100000 in
set_option maxHeartbeats 1000000 in
theorem passes_any (ad : Addr) (c n : Nat) (t : List UInt8) (i : Nat) (w : World) (p : Nat) (last ahead : Nat → Nat) (hF : FD w p ad n c last ahead) (hA : Rd w w.heap.size (some ad) (bv t)) (hn : t.length = n) (hi : i < n) (hc : n ≤ c) (hmx : n ≤ 4096) :
    Calls Tryz.prog 100 #[.pointer (some ⟨p, 0, none⟩), .int .i64 i] w fun e w' => e = .returned (.tuple #[]) ∧ FD w' p ad n c (if i + 5 ≤ n then fun h => if h = numb t i then i + 1 else last h else last) (if i + 5 ≤ n then fun j => if j = i then last (numb t i) else ahead j else ahead) ∧ Chg (fun k => k = p) w w' := by
  have hp := FD.text hF
  by_cases h5 : i + 5 ≤ n
  · have hlt := numb_lt t i
    have h1 := FD.lastc hF (numb t i) hlt
    have h2 := FD.aheadc hF i (by omega)
    have hfr := FD.free hF
    have HN := Lib.hid (number_any ad c n t i w p hp hA hn h5 hc (by omega))
    generalize numb t i = q at *
    have f1 : ((q : Int)).toNat = q := by omega
    have f2 : (q : Int) < 1024 := by omega
    have f3 : (0 : Int) ≤ q := by omega
    have f4 : (i : Int) < 4096 := by omega
    have f5 : (0 : Int) ≤ i := by omega
    have f6 : q < 1024 := hlt
    have f7 : i < 4096 := by omega
    go_enter Tryz.func100, Tryz.ntmps100
    go_wp2_with (go_at_call 103; refine HN.out.mono ?_; rintro e w' ⟨rfl, rfl⟩)
    go_still_tail 11, (by kernel_rfl)
    go_wp2
    have HP := FD.put hF (q := q) (i := i) (a := last q) (b := i + 1) hlt (by omega)
    refine ⟨rfl, .tuple #[], results_none (by kernel_rfl) _ _ _, ?_⟩
    exact ⟨rfl, by simpa using HP, (((Chg.refl (fun k => k = p) w).set1 rfl _ _).set1 rfl _ _).drew⟩
  rw [if_neg h5, if_neg h5]
  go_enter Tryz.func100, Tryz.ntmps100
  go_wp2
  refine bodyPost_ret (v := .tuple #[]) (by simp [results, Tryz.results100, go_sem]) rfl ?_
  exact ⟨rfl, hF, Chg.refl _ _⟩
end Go.Proofs.YtmhlgbpgdhhfnaaGreat
