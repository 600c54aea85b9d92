import Derived.Test.YtifimeohdgnehaaOct6
namespace Go.Proofs.Ytifimeohdgnehaa
open Go.RowKit Go.Maps

theorem tab_cell (w : World) (t : TypeId) (j : Nat) (hj : j < 16) : (w.alloc (.cells #[.int .u32 0, .int .u32 274646895, .int .u32 549293790, .int .u32 820201905, .int .u32 1098587580, .int .u32 1361435347, .int .u32 1640403810, .int .u32 1905808397, .int .u32 2197175160, .int .u32 2460548119, .int .u32 2722870694, .int .u32 2987750089, .int .u32 3280807620, .int .u32 3553878443, .int .u32 3811616794, .int .u32 4084100981] t)).cell? ⟨w.heap.size, j, none⟩ = some (.int .u32 (crcN 4 j : Nat)) := by
  rw [World.cell?_alloc_new, ← tabA_full, tabA_get 16 j hj, if_pos hj]
theorem crc8_of4 (x : Nat) : crcN 4 (crcN 4 x) = crcN 8 x := rfl

set_option maxRecDepth 100000 in
set_option maxHeartbeats 2000000 in
theorem octExtend (s : Nat) (hs : s < 4294967296) (A : Option Addr) (n c : Nat) (l : List UInt8) (w : World) (hA : Rd w w.heap.size A (bv l)) (hn : l.length = n) (hmx : n ≤ maxLen) :
    Calls Try.prog 24 #[.int .u32 s, .slice A n c] w fun e w' => e = .returned (.int .u32 (crcE s l)) ∧ Below w.heap.size w w' := by
  unfold maxLen at hmx
  have hx0 : 4294967295 - s < 4294967296 := by omega
  have hnot := not32 s hs
  have Hn := Lib.hid hn
  have HA := Lib.hid hA
  clear hn hA
  go_enter Try.func24, Try.ntmps24
  go_wp2_with (go_at_call 49; refine (octSums _).mono ?_; rintro e w1 ⟨rfl, hb1⟩; have Hb1 := Lib.hid hb1; clear hb1)
  go_loop [5, 14] (fun v i => ∃ k : Nat, k ≤ n ∧ i = .int .i64 k ∧ v = .int .u32 (crcX (4294967295 - s) (l.take k))) (fun _ i => n - (intOf i).toNat)
  case atStart => exact ⟨0, by omega, rfl, rfl⟩
  case round =>
    obtain ⟨k, hk, rfl, rfl⟩ := hrel
    have hq := crcX_lt _ (l.take k) hx0
    by_cases hlt : k < n
    · have hkl : k < l.length := by rw [Hn.out]; exact hlt
      have hrd := HA.out.below (Hb1.out.alloc Hb1.out.size (.cells #[.int .u32 0, .int .u32 274646895, .int .u32 549293790, .int .u32 820201905, .int .u32 1098587580, .int .u32 1361435347, .int .u32 1640403810, .int .u32 1905808397, .int .u32 2197175160, .int .u32 2460548119, .int .u32 2722870694, .int .u32 2987750089, .int .u32 3280807620, .int .u32 3553878443, .int .u32 3811616794, .int .u32 4084100981] 77))
      obtain ⟨ad, rfl, _, hc⟩ := hrd k (.int .u8 l[k].toNat) (by simp [bv, hkl])
      have hcb := l[k].toNat_lt
      have Hs := Lib.hid (show crcX (4294967295 - s) (l.take (k + 1)) = crcN 8 (crcX (4294967295 - s) (l.take k) ^^^ l[k].toNat) by rw [List.take_succ_eq_append_getElem hkl, crcX_snoc])
      generalize crcX (4294967295 - s) (l.take k) = x at hq Hs
      have h1 := u32_xor x l[k].toNat hq (by omega)
      have hy := xor32 hq (show l[k].toNat < 4294967296 by omega)
      generalize x ^^^ l[k].toNat = y at h1 hy Hs
      have h2 := u32_and y 15 hy (by omega)
      rw [show (15 : Nat) = 2 ^ 4 - 1 from rfl, Nat.and_two_pow_sub_one_eq_mod] at h2
      have h2' : bits .and .u32 (y : Int) 15 = ((y % 16 : Nat) : Int) := h2
      have ht1 := tab_cell w1 77 (y % 16) (Nat.mod_lt _ (by omega))
      have hz := crcN_lt 4 hy
      have e1 : ((y / 16 : Nat) : Int) = (y : Int) / 16 := by omega
      have h3 := u32_xor (crcN 4 (y % 16)) (y / 16) (crcN_lt 4 (by omega)) (by omega)
      rw [crc4_table, e1] at h3
      have hb1 : (y % 16 : Nat) < 16 := Nat.mod_lt _ (by omega)
      have Hz := Lib.hid (crc8_of4 y)
      generalize crcN 4 y = z at h3 hz Hz
      generalize crcN 4 (y % 16) = t1 at h3 ht1
      generalize y % 16 = y1 at h2' ht1 hb1
      have h4 := u32_and z 15 hz (by omega)
      rw [show (15 : Nat) = 2 ^ 4 - 1 from rfl, Nat.and_two_pow_sub_one_eq_mod] at h4
      have h4' : bits .and .u32 (z : Int) 15 = ((z % 16 : Nat) : Int) := h4
      have ht2 := tab_cell w1 77 (z % 16) (Nat.mod_lt _ (by omega))
      have e2 : ((z / 16 : Nat) : Int) = (z : Int) / 16 := by omega
      have h5 := u32_xor (crcN 4 (z % 16)) (z / 16) (crcN_lt 4 (by omega)) (by omega)
      rw [crc4_table, e2] at h5
      have hb2 : (z % 16 : Nat) < 16 := Nat.mod_lt _ (by omega)
      have Hf := Lib.hid (show crcN 4 z = crcN 8 y from Hz.out)
      generalize crcN 4 z = f at h5 Hf
      generalize crcN 4 (z % 16) = t2 at h5 ht2
      generalize z % 16 = z1 at h4' ht2 hb2
      clear h2 h4 e1 e2 hrd hx0 hnot
      go_wp2
      go_round
      case rel => exact ⟨k + 1, by omega, by go_num, by rw [Hs.out, ← Hf.out]⟩
      case measure => simp [intOf]; omega
    · have e : Hid (l.take k = l) := List.take_of_length_le (by have := Hn.out; omega)
      have hnot2 := not32 _ hq
      go_wp2
      go_ret
      refine ⟨ret_int ?_, Hb1.out.alloc Hb1.out.size _⟩
      rw [e.out]; rfl

theorem octSum (A : Option Addr) (n c : Nat) (l : List UInt8) (w : World) (hA : Rd w w.heap.size A (bv l)) (hn : l.length = n) (hmx : n ≤ maxLen) :
    Calls Try.prog 25 #[.slice A n c] w fun e w' => e = .returned (.int .u32 (crcE 0 l)) ∧ Below w.heap.size w w' := by
  go_enter Try.func25, Try.ntmps25
  go_wp2_with (go_at_call 24; refine (octExtend 0 (by omega) A n c l _ hA hn hmx).mono ?_; rintro e w1 ⟨rfl, hb1⟩)
  go_ret
  exact ⟨rfl, hb1⟩
theorem refSum (A : Option Addr) (n c : Nat) (l : List UInt8) (w : World) (hA : Rd w w.heap.size A (bv l)) (hn : l.length = n) (hmx : n ≤ maxLen) :
    Calls Try.prog 55 #[.slice A n c] w fun e w' => e = .returned (.int .u32 (crcE 0 l)) ∧ w = w' := by
  go_enter Try.func55, Try.ntmps55
  go_wp2_with (go_at_call 54; refine (refExtend 0 (by omega) A n c l _ hA hn hmx).mono ?_; rintro e w1 ⟨rfl, rfl⟩)
  go_ret
  exact ⟨rfl, rfl⟩
end Go.Proofs.Ytifimeohdgnehaa
