import Derived.Test.YtjgdjfmgkmegfaaMan20
namespace Go.Proofs.Ytjgdjfmgkmegfaa
open Go.RowKit Go.Maps

/-! The check sum tells one burst of four bytes. No program in sight. -/
theorem crcStep_top {x : Nat} (h : x < 4294967296) : (crcStep x).testBit 31 = decide (x % 2 = 1) := by
  unfold crcStep
  have h0 : (x / 2).testBit 31 = false := Nat.testBit_lt_two_pow (by omega)
  split
  · rename_i h1
    rw [Nat.testBit_xor, h0, h1]
    decide
  · rename_i h1
    rw [h0]; simp [h1]
theorem crcStep_inj {x y : Nat} (hx : x < 4294967296) (hy : y < 4294967296) (h : crcStep x = crcStep y) : x = y := by
  have t1 := crcStep_top hx
  have t2 := crcStep_top hy
  rw [h, t2] at t1
  unfold crcStep at h
  by_cases h1 : x % 2 = 1
  · have h2 : y % 2 = 1 := by simpa [h1] using t1
    rw [if_pos h1, if_pos h2] at h
    have := congrArg (· ^^^ 2197175160) h
    simp only [Nat.xor_assoc, Nat.xor_self, Nat.xor_zero] at this
    omega
  · have h2 : ¬ y % 2 = 1 := by simpa [h1] using t1
    rw [if_neg h1, if_neg h2] at h
    omega
theorem crcN_inj (k : Nat) {x y : Nat} (hx : x < 4294967296) (hy : y < 4294967296) (h : crcN k x = crcN k y) : x = y := by
  induction k generalizing x y with
  | zero => exact h
  | succ k ih => exact crcStep_inj hx hy (ih (crcStep_lt hx) (crcStep_lt hy) h)
theorem xor_left_inj' {a b c : Nat} (h : a ^^^ b = a ^^^ c) : b = c := by
  have := congrArg (a ^^^ ·) h
  simpa only [← Nat.xor_assoc, Nat.xor_self, Nat.zero_xor] using this
theorem xor_right_inj' {a b c : Nat} (h : a ^^^ c = b ^^^ c) : a = b := by
  rw [Nat.xor_comm a, Nat.xor_comm b] at h
  exact xor_left_inj' h
theorem crcX_app (x : Nat) (l m : List UInt8) : crcX x (l ++ m) = crcX (crcX x l) m := by simp [crcX, List.foldl_append]
theorem crcX_cons (x : Nat) (c : UInt8) (l : List UInt8) : crcX x (c :: l) = crcX (crcN 8 (x ^^^ c.toNat)) l := rfl
theorem crcX_inj (l : List UInt8) {x y : Nat} (hx : x < 4294967296) (hy : y < 4294967296) (h : crcX x l = crcX y l) : x = y := by
  induction l generalizing x y with
  | nil => exact h
  | cons c l ih =>
    have hc := c.toNat_lt
    have h2 := ih (crcN_lt 8 (xor32 hx (by omega))) (crcN_lt 8 (xor32 hy (by omega))) h
    exact xor_right_inj' (crcN_inj 8 (xor32 hx (by omega)) (xor32 hy (by omega)) h2)
/-- The bytes as one number, the first the lowest. -/
def leN : List UInt8 → Nat
  | [] => 0
  | c :: l => c.toNat ^^^ 256 * leN l
theorem xor_add256 (a b : Nat) (h : a < 256) : a ^^^ 256 * b = a + 256 * b := by
  have e := Nat.two_pow_add_eq_or_of_lt (i := 8) (b := a) (by omega) b
  have h2 : a ^^^ 2 ^ 8 * b = a ||| 2 ^ 8 * b := by
    apply Nat.eq_of_testBit_eq
    intro i
    rw [Nat.testBit_xor, Nat.testBit_or]
    rcases Nat.lt_or_ge i 8 with hi | hi
    · have : (2 ^ 8 * b).testBit i = false := by rw [Nat.testBit_two_pow_mul]; simp; omega
      rw [this]; simp
    · have : a.testBit i = false := Nat.testBit_lt_two_pow (Nat.lt_of_lt_of_le (show a < 2 ^ 8 by omega) (Nat.pow_le_pow_right (by decide) hi))
      rw [this]; simp
  rw [show (256 : Nat) = 2 ^ 8 from rfl, h2, Nat.or_comm, ← e]
  omega
theorem leN_inj : ∀ {a b : List UInt8}, a.length = b.length → leN a = leN b → a = b
  | [], [], _, _ => rfl
  | [], _ :: _, h, _ => by cases h
  | _ :: _, [], h, _ => by cases h
  | c :: a, d :: b, h, e => by
    have hc := c.toNat_lt
    have hd := d.toNat_lt
    rw [leN, leN, xor_add256 _ _ (by omega), xor_add256 _ _ (by omega)] at e
    have e1 : c.toNat = d.toNat := by omega
    have e2 : leN a = leN b := by omega
    rw [UInt8.toNat_inj.1 e1, leN_inj (by simpa using h) e2]
theorem leN_lt : ∀ (a : List UInt8), leN a < 256 ^ a.length
  | [] => by decide
  | c :: a => by
    have hc := c.toNat_lt
    have := leN_lt a
    rw [leN, xor_add256 _ _ (by omega), List.length_cons, Nat.pow_succ]
    omega
theorem crcX_leN (l : List UInt8) (x : Nat) : crcX x l = crcN (8 * l.length) (x ^^^ leN l) := by
  induction l generalizing x with
  | nil => simp [crcX, crcN, leN]
  | cons c l ih =>
    have hadd : ∀ (j k y : Nat), crcN (k + j) y = crcN j (crcN k y) := by
      intro j k y
      induction k generalizing y with
      | zero => simp [crcN]
      | succ k ihk => rw [show k + 1 + j = (k + j) + 1 by omega, crcN, ihk]; rfl
    rw [crcX_cons, ih, leN, List.length_cons, show 8 * (l.length + 1) = 8 + 8 * l.length by omega, hadd, ← Nat.xor_assoc, show (256 : Nat) = 2 ^ 8 from rfl, crcN_xor]
theorem crcX_burst {a b : List UInt8} (hl : a.length = b.length) (h4 : a.length ≤ 4) {x : Nat} (hx : x < 4294967296) (h : crcX x a = crcX x b) : a = b := by
  have ha := leN_lt a
  have hb := leN_lt b
  rw [← hl] at hb
  have hp : 256 ^ a.length ≤ 256 ^ 4 := Nat.pow_le_pow_right (by decide) h4
  rw [crcX_leN, crcX_leN, ← hl] at h
  exact leN_inj hl (xor_left_inj' (crcN_inj _ (xor32 hx (by omega)) (xor32 hx (by omega)) h))
/-- Two texts that part in one burst of at most four bytes alone have two sums. -/
theorem crcE_burst {s : Nat} {p a b q : List UInt8} (hs : s < 4294967296) (hl : a.length = b.length) (h4 : a.length ≤ 4) (h : crcE s (p ++ a ++ q) = crcE s (p ++ b ++ q)) : a = b := by
  unfold crcE at h
  have h0 : 4294967295 - s < 4294967296 := by omega
  have k1 := crcX_lt (4294967295 - s) (p ++ a ++ q) h0
  have k2 := crcX_lt (4294967295 - s) (p ++ b ++ q) h0
  have h1 : crcX (4294967295 - s) (p ++ a ++ q) = crcX (4294967295 - s) (p ++ b ++ q) := by omega
  rw [crcX_app, crcX_app, crcX_app, crcX_app] at h1
  have hp := crcX_lt (4294967295 - s) p h0
  exact crcX_burst hl h4 hp (crcX_inj q (crcX_lt _ _ hp) (crcX_lt _ _ hp) h1)

/-! Damage to a wrapped body. No program in sight. -/
theorem be32_inj {a b : Nat} (ha : a < 4294967296) (hb : b < 4294967296) (h : be32 a = be32 b) : a = b := by
  have := congrArg fxN h
  rwa [fxN_be32 _ ha, fxN_be32 _ hb] at this
theorem wrapB_head (mark : UInt8) (body : List UInt8) : (wrapB mark body).take 5 = mark :: be32 body.length := by simp [wrapB, be32]
theorem wrapB_body (mark : UInt8) (body : List UInt8) : (wrapB mark body).drop 9 = body := rfl
theorem wrapB_sum (mark : UInt8) (body : List UInt8) : ((wrapB mark body).drop 5).take 4 = be32 (crcE (crcE 0 (be32 body.length)) body) := by simp [wrapB, be32]
/-- Cut, or followed by something: no wrapped body. -/
theorem wrapB_cut {mark m2 : UInt8} {a b : List UInt8} {k : Nat} (ha : a.length < 4294967296) (hb : b.length < 4294967296) (hk : k < (wrapB mark a).length) (h : wrapB m2 b = (wrapB mark a).take k) : False := by
  have hl := congrArg List.length h
  rw [List.length_take, wrapB_len] at hl
  rw [wrapB_len] at hk hl
  have h5 := congrArg (List.take 5) h
  rw [List.take_take, show min 5 k = 5 by omega, wrapB_head, wrapB_head] at h5
  simp only [List.cons.injEq] at h5
  have := be32_inj hb ha h5.2
  omega
theorem wrapB_more {mark m2 : UInt8} {a b c : List UInt8} (ha : a.length < 4294967296) (hb : b.length < 4294967296) (hc : 0 < c.length) (h : wrapB m2 b = wrapB mark a ++ c) : False := by
  have hl := congrArg List.length h
  rw [List.length_append, wrapB_len, wrapB_len] at hl
  have h5 := congrArg (List.take 5) h
  rw [List.take_append_of_le_length (by rw [wrapB_len]; omega), wrapB_head, wrapB_head] at h5
  simp only [List.cons.injEq] at h5
  have := be32_inj hb ha h5.2
  omega
/-- The bytes l with the bytes o from place k on. -/
def splice (l : List UInt8) (k : Nat) (o : List UInt8) : List UInt8 := l.take k ++ o ++ l.drop (k + o.length)
theorem splice_len {l o : List UInt8} {k : Nat} (h : k + o.length ≤ l.length) : (splice l k o).length = l.length := by
  simp [splice]; omega
theorem splice_self {l : List UInt8} {k n : Nat} (h : k + n ≤ l.length) : splice l k ((l.drop k).take n) = l := by
  have : ((l.drop k).take n).length = n := by simp; omega
  unfold splice
  rw [this, ← List.drop_drop, List.append_assoc, List.take_append_drop, List.take_append_drop]
/-- One to four bytes, all ahead of the body or all in it: what is a wrapped body has not turned. -/
theorem wrapB_burst {mark : UInt8} {a b o : List UInt8} {k : Nat} (ha : a.length < 4294967296) (h4 : o.length ≤ 4) (hk : k + o.length ≤ (wrapB mark a).length) (hpl : 9 ≤ k ∨ k + o.length ≤ 9)
    (h : wrapB mark b = splice (wrapB mark a) k o) : wrapB mark b = wrapB mark a := by
  have hl := congrArg List.length h
  rw [splice_len hk, wrapB_len, wrapB_len] at hl
  have hab : b.length = a.length := by omega
  rw [wrapB_len] at hk
  rcases hpl with h9 | h9
  · -- in the body
    have hsum := congrArg (fun l => (l.drop 5).take 4) h
    have hbd := congrArg (List.drop 9) h
    have e1 : ((splice (wrapB mark a) k o).drop 5).take 4 = ((wrapB mark a).drop 5).take 4 := by
      unfold splice
      rw [List.append_assoc, List.drop_append_of_le_length (by simp [wrapB_len]; omega), List.take_append_of_le_length (by simp [wrapB_len]; omega), List.drop_take, List.take_take, show min 4 (k - 5) = 4 by omega]
    have e2 : (splice (wrapB mark a) k o).drop 9 = splice a (k - 9) o := by
      unfold splice
      rw [List.append_assoc, List.drop_append_of_le_length (by simp [wrapB_len]; omega), List.drop_take, wrapB_body, List.append_assoc, show k + o.length = 9 + (k - 9 + o.length) by omega, ← List.drop_drop, wrapB_body]
    rw [e1, wrapB_sum, wrapB_sum] at hsum
    rw [wrapB_body, e2] at hbd
    have hs := be32_inj (crcE_lt _ _) (crcE_lt _ _) hsum
    rw [hab] at hs
    have hself := splice_self (l := a) (k := k - 9) (n := o.length) (by omega)
    have hx : crcE (crcE 0 (be32 a.length)) (splice a (k - 9) o) = crcE (crcE 0 (be32 a.length)) (splice a (k - 9) ((a.drop (k - 9)).take o.length)) := by rw [hself, ← hbd, hs]
    have hon : ((a.drop (k - 9)).take o.length).length = o.length := by simp; omega
    unfold splice at hx
    rw [hon] at hx
    have := crcE_burst (crcE_lt _ _) hon.symm h4 hx
    rw [hbd, this, hself]
  · -- ahead of it
    have hbd := congrArg (List.drop 9) h
    have e2 : (splice (wrapB mark a) k o).drop 9 = a := by
      have hl1 : ((wrapB mark a).take k ++ o).length = k + o.length := by simp [wrapB_len]; omega
      unfold splice
      rw [List.drop_append, List.drop_eq_nil_of_le (by omega), hl1, List.nil_append, List.drop_drop, show k + o.length + (9 - (k + o.length)) = 9 by omega]
      rfl
    rw [wrapB_body, e2] at hbd
    rw [hbd]
end Go.Proofs.Ytjgdjfmgkmegfaa
