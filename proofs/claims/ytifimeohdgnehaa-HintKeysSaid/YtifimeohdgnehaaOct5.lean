import Derived.Test.YtifimeohdgnehaaOct4
import Derived.IntWalk
namespace Go.Proofs.Ytifimeohdgnehaa
open Go.RowKit Go.Maps

theorem crcN_snoc (k x : Nat) : crcN (k + 1) x = crcStep (crcN k x) := by
  induction k generalizing x with
  | zero => rfl
  | succ k ih => rw [crcN, ih]; rfl
theorem not32 (x : Nat) (hx : x < 4294967296) : bits .xor .u32 IntKind.u32.max (x : Int) = ((4294967295 - x : Nat) : Int) := by
  have e : IntKind.u32.max = ((4294967295 : Nat) : Int) := by decide
  rw [e, u32_xor 4294967295 x (by omega) hx]
  have h : (BitVec.allOnes 32 ^^^ BitVec.ofNat 32 x) = ~~~ (BitVec.ofNat 32 x) := BitVec.allOnes_xor
  have h2 := congrArg BitVec.toNat h
  rw [BitVec.toNat_xor, BitVec.toNat_not, BitVec.toNat_allOnes, BitVec.toNat_ofNat, Nat.mod_eq_of_lt (show x < 2 ^ 32 by omega)] at h2
  have h3 : (4294967295 : Nat) ^^^ x = 4294967295 - x := h2
  rw [h3]
def crcX (x : Nat) (l : List UInt8) : Nat := l.foldl (fun x c => crcN 8 (x ^^^ c.toNat)) x
theorem crcX_snoc (x : Nat) (l : List UInt8) (c : UInt8) : crcX x (l ++ [c]) = crcN 8 (crcX x l ^^^ c.toNat) := by simp [crcX, List.foldl_append]
theorem xor32 {a b : Nat} (ha : a < 4294967296) (hb : b < 4294967296) : a ^^^ b < 4294967296 := Nat.xor_lt_two_pow (n := 32) ha hb
theorem crcX_lt (x : Nat) (l : List UInt8) (h : x < 4294967296) : crcX x l < 4294967296 := by
  induction l generalizing x with
  | nil => exact h
  | cons c l ih => exact ih _ (crcN_lt 8 (xor32 h (by have := c.toNat_lt; omega)))
/-- The check sum of a text that goes on. -/
def crcE (s : Nat) (l : List UInt8) : Nat := 4294967295 - crcX (4294967295 - s) l

set_option maxRecDepth 100000 in
theorem refThrough (x : Nat) (c : Nat) (hx : x < 4294967296) (hc : c < 256) (w : World) : Calls Try.prog 69 #[.int .u32 x, .int .u8 c] w fun e w' => e = .returned (.int .u32 (crcN 8 (x ^^^ c))) ∧ w = w' := by
  have h1 := u32_xor x c hx (by omega)
  have hlt : x ^^^ c < 4294967296 := xor32 hx (by omega)
  generalize x ^^^ c = y at h1 hlt
  go_enter Try.func69, Try.ntmps69
  go_wp2
  go_loop [0, 5] (fun v i => ∃ k : Nat, k ≤ 8 ∧ i = .int .i64 k ∧ v = .int .u32 (crcN k y)) (fun _ i => 8 - (intOf i).toNat)
  case atStart => exact ⟨0, by omega, rfl, rfl⟩
  case round =>
    obtain ⟨k, hk, rfl, rfl⟩ := hrel
    have hq := crcN_lt k hlt
    have Hs := Lib.hid (crcN_snoc k y)
    by_cases hk8 : k < 8
    · go_wp2_with (go_at_call 81; refine (refM (crcN k y) hq _).mono ?_; rintro e w' ⟨rfl, rfl⟩)
      go_round
      case rel => exact ⟨k + 1, by omega, by go_num, by rw [Hs.out]⟩
      case measure => simp [intOf]; omega
    · have hk88 : Hid (k = 8) := by show k = 8; omega
      go_wp2
      go_ret
      refine ⟨ret_int ?_, rfl⟩
      rw [hk88.out]

set_option maxRecDepth 100000 in
theorem refExtend (s : Nat) (hs : s < 4294967296) (A : Option Addr) (n c : Nat) (l : List UInt8) (w : World) (hA : Rd w w.heap.size A (bv l)) (hn : l.length = n) (hmx : n ≤ maxLen) :
    Calls Try.prog 54 #[.int .u32 s, .slice A n c] w fun e w' => e = .returned (.int .u32 (crcE s l)) ∧ w = w' := by
  unfold maxLen at hmx
  have hx0 : 4294967295 - s < 4294967296 := by omega
  have hnot := not32 s hs
  have Hn := Lib.hid hn
  clear hn
  go_enter Try.func54, Try.ntmps54
  go_wp2
  go_loop [5, 6] (fun v i => ∃ k : Nat, k ≤ n ∧ i = .int .i64 k ∧ v = .int .u32 (crcX (4294967295 - s) (l.take k))) (fun _ i => n - (intOf i).toNat)
  case atStart => exact ⟨0, by omega, rfl, rfl⟩
  case round =>
    obtain ⟨k, hk, rfl, rfl⟩ := hrel
    have hq := crcX_lt _ (l.take k) hx0
    by_cases hlt : k < n
    · have hkl : k < l.length := by rw [Hn.out]; exact hlt
      obtain ⟨ad, rfl, _, hc⟩ := hA k (.int .u8 l[k].toNat) (by simp [bv, hkl])
      have hcb := l[k].toNat_lt
      have Hs := Lib.hid (show crcX (4294967295 - s) (l.take (k + 1)) = crcN 8 (crcX (4294967295 - s) (l.take k) ^^^ l[k].toNat) by rw [List.take_succ_eq_append_getElem hkl, crcX_snoc])
      go_wp2_with (go_at_call 69; refine (refThrough (crcX (4294967295 - s) (l.take k)) l[k].toNat hq hcb _).mono ?_; rintro e w' ⟨rfl, rfl⟩)
      go_round
      case rel => exact ⟨k + 1, by omega, by go_num, by rw [Hs.out]⟩
      case measure => simp [intOf]; omega
    · have e : Hid (l.take k = l) := List.take_of_length_le (by have := Hn.out; omega)
      have hnot2 := not32 _ hq
      go_wp2
      go_ret
      refine ⟨ret_int ?_, rfl⟩
      rw [e.out]; rfl
end Go.Proofs.Ytifimeohdgnehaa
