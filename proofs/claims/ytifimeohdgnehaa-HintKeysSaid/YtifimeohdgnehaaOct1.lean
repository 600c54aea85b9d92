import Derived.Test.YtifimeohdgnehaaRows
import Derived.Test.YtifimeohdgnehaaMem
namespace Go.Proofs.Ytifimeohdgnehaa
open Go.RowKit Go.Maps

theorem info_u8 : (Try.prog.info? 5).map (fun i => (i.zero, i.size, i.bytes)) = some (some (.int .u8 0), 1, 1) := by kernel_rfl

/-- Bytes as cells. -/
def bv (l : List UInt8) : List Value := l.map fun c => .int .u8 c.toNat
/-- A number as short as can be, at most f bytes. -/
def uvarF : Nat → Nat → List UInt8
  | 0, _ => []
  | f + 1, n => if n < 128 then [UInt8.ofNat n] else UInt8.ofNat (n % 128 + 128) :: uvarF f (n / 128)
def uvar (n : Nat) : List UInt8 := uvarF 10 n
theorem bv_len (l : List UInt8) : (bv l).length = l.length := by simp [bv]
theorem bv_app (a b : List UInt8) : bv (a ++ b) = bv a ++ bv b := by simp [bv]
theorem one_bv (l : List UInt8) : ∀ u ∈ bv l, u.oneCell' = true := by
  intro u hu; obtain ⟨x, _, rfl⟩ := List.mem_map.1 hu; rfl
theorem or128 (n : Nat) : (n % 256) ||| 128 = n % 128 + 128 := by
  have h : ∀ m, m < 256 → m ||| 128 = m % 128 + 128 := by decide +kernel
  rw [h _ (Nat.mod_lt _ (by omega))]; omega
theorem u8_or (a b : Nat) (ha : a < 256) (hb : b < 256) : bits .or .u8 (a : Int) (b : Int) = ((a ||| b : Nat) : Int) := by
  have e : ∀ x : Nat, x < 256 → (BitVec.ofInt 8 (x : Int)).toNat = x := fun x hx => by
    rw [BitVec.ofInt_natCast, BitVec.toNat_ofNat]; exact Nat.mod_eq_of_lt (by omega)
  have hx : a ||| b < 2 ^ 8 := Nat.or_lt_two_pow (by omega) (by omega)
  show IntKind.u8.wrap ((BitVec.ofInt 8 (a : Int) ||| BitVec.ofInt 8 (b : Int)).toNat : Int) = _
  rw [BitVec.toNat_or, e a ha, e b hb, IntKind.wrap_u8]
  omega
theorem or128i (m : Nat) : bits .or .u8 ((m : Int) % 256) 128 = (m : Int) % 128 + 128 := by
  have h := u8_or (m % 256) 128 (Nat.mod_lt _ (by omega)) (by omega)
  rw [or128] at h
  have e : (((m % 256 : Nat)) : Int) = (m : Int) % 256 := by omega
  rw [e] at h
  exact h.trans (by omega)
theorem nil_own (w : World) (B : Nat) (t : TypeId) (size : Nat) : w.ownsRow B t size (.slice none 0 0) 0 [] := World.ownsRow_nil w B t size

set_option maxRecDepth 100000 in
set_option maxHeartbeats 1000000 in
theorem uvarint_any (n : Nat) (hn : n < 18446744073709551616) (w : World) :
    Calls Try.prog 67 #[.int .u64 n] w fun e w' => ∃ v, e = .returned v ∧ w'.ownsRow w.heap.size 5 1 v (uvar n).length (bv (uvar n)) ∧ Below w.heap.size w w' := by
  obtain ⟨i0, hi0, hz0, hs0, hy0⟩ := info_parts info_u8
  go_enter Try.func67, Try.ntmps67
  go_wp2
  go_loopw [0, 3] (fun v s wr => ∃ (f m : Nat) (done : List UInt8), f < 10 ∧ m < 2 ^ (7 * f + 1) ∧ v = .int .u64 m ∧ wr.ownsRow w.heap.size 5 1 s done.length (bv done) ∧ Below w.heap.size w wr ∧ done.length + f = 9 ∧ uvar n = done ++ uvarF (f + 1) m) (fun v _ _ => (intOf v).toNat)
  case atStart => exact ⟨9, n, [], by omega, hn, rfl, nil_own _ _ _ _, Below.refl _ _, rfl, rfl⟩
  case round =>
    obtain ⟨f, m, done, hf, hm, rfl, hown, hb, hdl, hu⟩ := hrel
    have hm64 : m < 18446744073709551616 := Nat.lt_of_lt_of_le hm (Nat.pow_le_pow_right (by omega) (show 7 * f + 1 ≤ 64 by omega))
    have Hm := Lib.hid hm
    have Hu := Lib.hid hu
    have Hd := Lib.hid hdl
    clear hm hu hdl
    by_cases hlt : m < 128
    · have hu2 := Lib.hid (show uvar n = done ++ [UInt8.ofNat m] by rw [Hu.out, uvarF, if_pos hlt])
      go_wp2_with (at_builtin
                   refine wpList_app _ rfl (.tmp 14) (.tmp 17) _ rfl w.heap.size 5 i0 _ 1 1 Try.underlying26 hi0 hz0 hs0 hy0 rfl (by omega) _ done.length (bv done) rfl (hown.alloc _) _ _ 1 1 [.int .u8 (m : Int)] rfl rfl (rd_new _ _ _) (by simp [Value.oneCell']) (by have := Hd.out; unfold maxLen; omega) (by have := Hd.out; omega) (by have := hb.size; simp; omega) ?_
                   intro v1 w1 hown1 hg1 _
                   have Hown1 := Lib.hid hown1
                   have Hb1 := Lib.hid ((hb.alloc hb.size (.cells #[.int .u8 (m : Int)] 5)).grown hg1 (by have := hb.size; simp; omega) (fun k e => (hown.lt _ e).1))
                   clear hown1 hg1)
      go_ret
      refine ⟨v1, rfl, ?_, Hb1.out⟩
      rw [hu2.out, bv_app, List.length_append]
      have e : bv [UInt8.ofNat m] = [.int .u8 (m : Int)] := by simp [bv]; omega
      rw [e]; exact Hown1.out
    · have hx := or128i m
      go_wp2_with (at_builtin
                   refine wpList_app1 _ rfl (.tmp 6) (.tmp 10) _ rfl w.heap.size 5 i0 _ 1 1 Try.underlying26 hi0 hz0 hs0 hy0 rfl (by omega) _ done.length (bv done) rfl (hown.alloc _) _ _ 1 1 [.int .u8 ((m : Int) % 128 + 128)] rfl rfl (rd_new _ _ _) (by simp [Value.oneCell']) (by have := Hd.out; unfold maxLen; omega) (by have := Hd.out; omega) (by have := hb.size; simp; omega) (by omega) ?_
                   intro g1 c1 w1 _ _ _ hown1 hg1 _
                   have Hown1 := Lib.hid hown1
                   have Hb1 := Lib.hid ((hb.alloc hb.size (.cells #[.int .u8 ((m : Int) % 128 + 128)] 5)).grown hg1 (by have := hb.size; simp; omega) (fun k e => (hown.lt _ e).1))
                   clear hown1 hg1)
      go_roundw
      case rel =>
        have hf0 : f ≠ 0 := by
          rintro rfl
          have := Hm.out
          simp at this; omega
        obtain ⟨f', rfl⟩ : ∃ f', f = f' + 1 := ⟨f - 1, by omega⟩
        refine ⟨f', m / 128, done ++ [UInt8.ofNat (m % 128 + 128)], by omega, ?_, by go_num, ?_, Hb1.out, ?_, ?_⟩
        · have := Hm.out
          rw [show 7 * (f' + 1) + 1 = (7 * f' + 1) + 7 by omega, Nat.pow_add] at this
          exact Nat.div_lt_of_lt_mul (by omega)
        · rw [bv_app, List.length_append]
          have e : bv [UInt8.ofNat (m % 128 + 128)] = [.int .u8 ((m : Int) % 128 + 128)] := by simp [bv]; omega
          rw [e]; exact Hown1.out
        · have := Hd.out
          simp; omega
        · rw [Hu.out, uvarF, if_neg hlt, List.append_assoc]; rfl
      case measure => simp [intOf]; omega

set_option maxRecDepth 100000 in
set_option maxHeartbeats 1000000 in
theorem refUvarint_any (n : Nat) (hn : n < 18446744073709551616) (w : World) :
    Calls Try.prog 52 #[.int .u64 n] w fun e w' => ∃ v, e = .returned v ∧ w'.ownsRow w.heap.size 5 1 v (uvar n).length (bv (uvar n)) ∧ Below w.heap.size w w' := by
  obtain ⟨i0, hi0, hz0, hs0, hy0⟩ := info_parts info_u8
  go_enter Try.func52, Try.ntmps52
  go_wp2
  go_loopw [0, 3] (fun v s wr => ∃ (f m : Nat) (done : List UInt8), f < 10 ∧ m < 2 ^ (7 * f + 1) ∧ v = .int .u64 m ∧ wr.ownsRow w.heap.size 5 1 s done.length (bv done) ∧ Below w.heap.size w wr ∧ done.length + f = 9 ∧ uvar n = done ++ uvarF (f + 1) m) (fun v _ _ => (intOf v).toNat)
  case atStart => exact ⟨9, n, [], by omega, hn, rfl, nil_own _ _ _ _, Below.refl _ _, rfl, rfl⟩
  case round =>
    obtain ⟨f, m, done, hf, hm, rfl, hown, hb, hdl, hu⟩ := hrel
    have hm64 : m < 18446744073709551616 := Nat.lt_of_lt_of_le hm (Nat.pow_le_pow_right (by omega) (show 7 * f + 1 ≤ 64 by omega))
    have Hm := Lib.hid hm
    have Hu := Lib.hid hu
    have Hd := Lib.hid hdl
    clear hm hu hdl
    by_cases hlt : m < 128
    · have hu2 := Lib.hid (show uvar n = done ++ [UInt8.ofNat m] by rw [Hu.out, uvarF, if_pos hlt])
      go_wp2_with (at_builtin
                   refine wpList_app _ rfl (.tmp 15) (.tmp 18) _ rfl w.heap.size 5 i0 _ 1 1 Try.underlying26 hi0 hz0 hs0 hy0 rfl (by omega) _ done.length (bv done) rfl (hown.alloc _) _ _ 1 1 [.int .u8 (m : Int)] rfl rfl (rd_new _ _ _) (by simp [Value.oneCell']) (by have := Hd.out; unfold maxLen; omega) (by have := Hd.out; omega) (by have := hb.size; simp; omega) ?_
                   intro v1 w1 hown1 hg1 _
                   have Hown1 := Lib.hid hown1
                   have Hb1 := Lib.hid ((hb.alloc hb.size (.cells #[.int .u8 (m : Int)] 5)).grown hg1 (by have := hb.size; simp; omega) (fun k e => (hown.lt _ e).1))
                   clear hown1 hg1)
      go_ret
      refine ⟨v1, rfl, ?_, Hb1.out⟩
      rw [hu2.out, bv_app, List.length_append]
      have e : bv [UInt8.ofNat m] = [.int .u8 (m : Int)] := by simp [bv]; omega
      rw [e]; exact Hown1.out
    · skip
      go_wp2_with (at_builtin
                   refine wpList_app1 _ rfl (.tmp 6) (.tmp 11) _ rfl w.heap.size 5 i0 _ 1 1 Try.underlying26 hi0 hz0 hs0 hy0 rfl (by omega) _ done.length (bv done) rfl (hown.alloc _) _ _ 1 1 [.int .u8 ((m : Int) % 128 + 128)] rfl rfl (rd_new _ _ _) (by simp [Value.oneCell']) (by have := Hd.out; unfold maxLen; omega) (by have := Hd.out; omega) (by have := hb.size; simp; omega) (by omega) ?_
                   intro g1 c1 w1 _ _ _ hown1 hg1 _
                   have Hown1 := Lib.hid hown1
                   have Hb1 := Lib.hid ((hb.alloc hb.size (.cells #[.int .u8 ((m : Int) % 128 + 128)] 5)).grown hg1 (by have := hb.size; simp; omega) (fun k e => (hown.lt _ e).1))
                   clear hown1 hg1)
      go_roundw
      case rel =>
        have hf0 : f ≠ 0 := by
          rintro rfl
          have := Hm.out
          simp at this; omega
        obtain ⟨f', rfl⟩ : ∃ f', f = f' + 1 := ⟨f - 1, by omega⟩
        refine ⟨f', m / 128, done ++ [UInt8.ofNat (m % 128 + 128)], by omega, ?_, by go_num, ?_, Hb1.out, ?_, ?_⟩
        · have := Hm.out
          rw [show 7 * (f' + 1) + 1 = (7 * f' + 1) + 7 by omega, Nat.pow_add] at this
          exact Nat.div_lt_of_lt_mul (by omega)
        · rw [bv_app, List.length_append]
          have e : bv [UInt8.ofNat (m % 128 + 128)] = [.int .u8 ((m : Int) % 128 + 128)] := by simp [bv]; omega
          rw [e]; exact Hown1.out
        · have := Hd.out
          simp; omega
        · rw [Hu.out, uvarF, if_neg hlt, List.append_assoc]; rfl
      case measure => simp [intOf]; omega

end Go.Proofs.Ytifimeohdgnehaa
