import Derived.Test.YtifimeohdgnehaaOct3
namespace Go.Proofs.Ytifimeohdgnehaa
open Go.RowKit Go.Maps

theorem ofInt32 (a : Nat) (ha : a < 4294967296) : (BitVec.ofInt 32 (a : Int)).toNat = a := by
  rw [BitVec.ofInt_natCast, BitVec.toNat_ofNat]; exact Nat.mod_eq_of_lt (by omega)
theorem u32_xor (a b : Nat) (ha : a < 4294967296) (hb : b < 4294967296) : bits .xor .u32 (a : Int) (b : Int) = ((a ^^^ b : Nat) : Int) := by
  have hx : a ^^^ b < 2 ^ 32 := Nat.xor_lt_two_pow (by omega) (by omega)
  show IntKind.u32.wrap ((BitVec.ofInt 32 (a : Int) ^^^ BitVec.ofInt 32 (b : Int)).toNat : Int) = _
  rw [BitVec.toNat_xor, ofInt32 a ha, ofInt32 b hb, IntKind.wrap_u32]
  omega
theorem u32_and (a b : Nat) (ha : a < 4294967296) (hb : b < 4294967296) : bits .and .u32 (a : Int) (b : Int) = ((a &&& b : Nat) : Int) := by
  have hx : a &&& b < 2 ^ 32 := Nat.and_lt_two_pow _ (by omega)
  show IntKind.u32.wrap ((BitVec.ofInt 32 (a : Int) &&& BitVec.ofInt 32 (b : Int)).toNat : Int) = _
  rw [BitVec.toNat_and, ofInt32 a ha, ofInt32 b hb, IntKind.wrap_u32]
  omega

/-- One step of the register, for a bit of 0. -/
def crcStep (x : Nat) : Nat := if x % 2 = 1 then x / 2 ^^^ 2197175160 else x / 2
def crcN : Nat → Nat → Nat
  | 0, x => x
  | k + 1, x => crcN k (crcStep x)
theorem crcStep_lt {x : Nat} (h : x < 4294967296) : crcStep x < 4294967296 := by
  unfold crcStep
  split
  · exact Nat.xor_lt_two_pow (n := 32) (by omega) (by omega)
  · omega
theorem crcN_lt (k : Nat) {x : Nat} (h : x < 4294967296) : crcN k x < 4294967296 := by
  induction k generalizing x with
  | zero => exact h
  | succ k ih => exact ih (crcStep_lt h)
theorem xor_even (a b : Nat) : (a ^^^ 2 * b) % 2 = a % 2 ∧ (a ^^^ 2 * b) / 2 = a / 2 ^^^ b := by
  constructor
  · have h := Nat.xor_mod_two_pow (a := a) (b := 2 * b) (n := 1)
    simp at h
    exact h
  · have h := Nat.xor_div_two_pow (a := a) (b := 2 * b) (n := 1)
    simp at h
    exact h
theorem crcStep_xor (a b : Nat) : crcStep (a ^^^ 2 * b) = crcStep a ^^^ b := by
  obtain ⟨h1, h2⟩ := xor_even a b
  unfold crcStep
  rw [h1, h2]
  split
  · rw [Nat.xor_assoc, Nat.xor_assoc, Nat.xor_comm b]
  · rfl
theorem crcN_xor (k a b : Nat) : crcN k (a ^^^ 2 ^ k * b) = crcN k a ^^^ b := by
  induction k generalizing a b with
  | zero => simp [crcN]
  | succ k ih => rw [crcN, show 2 ^ (k + 1) * b = 2 * (2 ^ k * b) by rw [Nat.pow_succ]; simp [Nat.mul_comm, Nat.mul_left_comm], crcStep_xor, ih]; rfl
/-- Four steps by the table. -/
theorem crc4_table (x : Nat) : crcN 4 (x % 16) ^^^ x / 16 = crcN 4 x := by
  rw [← crcN_xor]
  congr 1
  have h := Nat.two_pow_add_eq_or_of_lt (i := 4) (b := x % 16) (Nat.mod_lt _ (by decide)) (x / 16)
  have h2 : x % 16 ^^^ 2 ^ 4 * (x / 16) = x % 16 ||| 2 ^ 4 * (x / 16) := by
    apply Nat.eq_of_testBit_eq
    intro i
    rw [Nat.testBit_xor, Nat.testBit_or]
    rcases Nat.lt_or_ge i 4 with hi | hi
    · have h4 : decide (i ≥ 4) = false := by simp; omega
      rw [Nat.testBit_two_pow_mul, h4]; simp
    · have hp : (2 : Nat) ^ 4 ≤ 2 ^ i := Nat.pow_le_pow_right (by omega) hi
      have hm : x % 16 < 2 ^ 4 := Nat.mod_lt _ (by decide)
      have : (x % 16).testBit i = false := Nat.testBit_lt_two_pow (Nat.lt_of_lt_of_le hm hp)
      simp [this]
  rw [h2, Nat.or_comm, ← h]
  omega

set_option maxRecDepth 100000 in
theorem refM (n : Nat) (hn : n < 4294967296) (w : World) : Calls Try.prog 81 #[.int .u32 n] w fun e w' => e = .returned (.int .u32 (crcStep n)) ∧ w = w' := by
  have e : ((n / 2 : Nat) : Int) = (n : Int) / 2 := by omega
  have h1 : bits .xor .u32 ((n : Int) / 2) 2197175160 = ((n / 2 ^^^ 2197175160 : Nat) : Int) := by rw [← e]; exact u32_xor (n / 2) 2197175160 (by omega) (by omega)
  clear e
  by_cases ho : n % 2 = 1
  · have ho' : (((n : Int) % 2) == 1) = true := by simp; omega
    go_enter Try.func81, Try.ntmps81
    go_wp2
    go_ret
    exact ⟨ret_int (by rw [crcStep, if_pos ho]), rfl⟩
  · have ho' : (((n : Int) % 2) == 1) = false := by simp; omega
    go_enter Try.func81, Try.ntmps81
    go_wp2
    go_ret
    exact ⟨ret_int (by rw [crcStep, if_neg ho]; omega), rfl⟩

set_option maxRecDepth 100000 in
theorem octStep (n : Nat) (hn : n < 4294967296) (w : World) : Calls Try.prog 68 #[.int .u32 n] w fun e w' => e = .returned (.int .u32 (crcStep n)) ∧ w = w' := by
  have e : ((n / 2 : Nat) : Int) = (n : Int) / 2 := by omega
  have h1 : bits .xor .u32 ((n : Int) / 2) 2197175160 = ((n / 2 ^^^ 2197175160 : Nat) : Int) := by rw [← e]; exact u32_xor (n / 2) 2197175160 (by omega) (by omega)
  clear e
  have h2 := u32_and n 1 hn (by omega)
  rw [Nat.and_one_is_mod] at h2
  by_cases ho : n % 2 = 1
  · have h3 : bits .and .u32 (n : Int) 1 = 1 := h2.trans (by rw [ho]; rfl)
    clear h2
    go_enter Try.func68, Try.ntmps68
    go_wp2
    go_ret
    exact ⟨ret_int (by rw [crcStep, if_pos ho]), rfl⟩
  · have h3 : bits .and .u32 (n : Int) 1 = 0 := h2.trans (by rw [show n % 2 = 0 by omega]; rfl)
    clear h2
    go_enter Try.func68, Try.ntmps68
    go_wp2
    go_ret
    exact ⟨ret_int (by rw [crcStep, if_neg ho]; omega), rfl⟩
end Go.Proofs.Ytifimeohdgnehaa
