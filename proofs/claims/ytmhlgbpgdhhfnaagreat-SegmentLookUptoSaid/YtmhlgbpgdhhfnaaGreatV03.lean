import Derived.Test.YtmhlgbpgdhhfnaaGreatV02
import Derived.StillTailTactics
set_option linter.unusedVariables false
set_option linter.unusedSimpArgs false
namespace Go.Proofs.YtmhlgbpgdhhfnaaGreat
open Go.RowKit Go.Maps

/-- A number read: its value, and how many bytes it has; i bytes of it were read before. -/
def rdU : Nat → List UInt8 → Option (Nat × Nat)
  | _, [] => none
  | i, c :: r => if i = 9 ∧ c.toNat ≠ 1 then none else if 0 < i ∧ c.toNat = 0 then none else if c.toNat < 128 then some (c.toNat, 1) else (rdU (i + 1) r).map fun x => (c.toNat % 128 + 128 * x.1, x.2 + 1)
/-- What ReadUvarint answers. -/
def rdE (l : List UInt8) : Option (Nat × Nat) := rdU 0 l
def errU (i : Nat) : List UInt8 → Int
  | [] => 10
  | c :: r => if i = 9 ∧ c.toNat ≠ 1 then 11 else if 0 < i ∧ c.toNat = 0 then 11 else if c.toNat < 128 then 0 else errU (i + 1) r


theorem ofInt64 (a : Nat) (ha : a < 18446744073709551616) : (BitVec.ofInt 64 (a : Int)).toNat = a := by
  rw [BitVec.ofInt_natCast, BitVec.toNat_ofNat]; exact Nat.mod_eq_of_lt (by omega)
theorem u64_or (a b : Nat) (ha : a < 18446744073709551616) (hb : b < 18446744073709551616) : bits .or .u64 (a : Int) (b : Int) = ((a ||| b : Nat) : Int) := by
  have hx : a ||| b < 2 ^ 64 := Nat.or_lt_two_pow (by omega) (by omega)
  show IntKind.u64.wrap ((BitVec.ofInt 64 (a : Int) ||| BitVec.ofInt 64 (b : Int)).toNat : Int) = _
  rw [BitVec.toNat_or, ofInt64 a ha, ofInt64 b hb, IntKind.wrap_u64]
  omega
theorem u8_and127 (c : Nat) (hc : c < 256) : bits .and .u8 (c : Int) 127 = ((c % 128 : Nat) : Int) := by
  have e : ∀ x : Nat, x < 256 → (BitVec.ofInt 8 (x : Int)).toNat = x := fun x hx => by
    rw [BitVec.ofInt_natCast, BitVec.toNat_ofNat]; exact Nat.mod_eq_of_lt (by omega)
  have h : c &&& 127 = c % 128 := by rw [show (127 : Nat) = 2 ^ 7 - 1 from rfl, Nat.and_two_pow_sub_one_eq_mod]
  have e2 := e 127 (by omega)
  show IntKind.u8.wrap ((BitVec.ofInt 8 (c : Int) &&& BitVec.ofInt 8 127).toNat : Int) = _
  rw [BitVec.toNat_and, e c hc, show (BitVec.ofInt 8 127).toNat = 127 from rfl, h, IntKind.wrap_u8]
  omega
/-- A group laid behind those that were read. -/
theorem shl_or (acc c k : Nat) (hc : c < 256) (hk : k < 10) (ha : acc < 2 ^ (7 * k)) (hb : k = 9 → c = 1) :
    bits .or .u64 (acc : Int) (IntKind.u64.wrap (IntKind.u64.wrap (bits .and .u8 (c : Int) 127) * 2 ^ (7 * k))) = ((acc + 2 ^ (7 * k) * (c % 128) : Nat) : Int) ∧ acc + 2 ^ (7 * k) * (c % 128) < 18446744073709551616 := by
  have hp : 2 ^ (7 * k) * (c % 128) + 2 ^ (7 * k) ≤ 18446744073709551616 := by
    rcases Nat.lt_or_ge k 9 with h | h
    · have h1 : (2 : Nat) ^ (7 * k) ≤ 2 ^ 56 := Nat.pow_le_pow_right (by omega) (by omega)
      have h2 : c % 128 < 128 := Nat.mod_lt _ (by omega)
      have h3 : 2 ^ (7 * k) * (c % 128) + 2 ^ (7 * k) = 2 ^ (7 * k) * (c % 128 + 1) := by rw [Nat.mul_add, Nat.mul_one]
      rw [h3]
      exact Nat.le_trans (Nat.mul_le_mul h1 (show c % 128 + 1 ≤ 128 by omega)) (by omega)
    obtain rfl : k = 9 := by omega
    obtain rfl := hb rfl
    decide
  have hlt : acc + 2 ^ (7 * k) * (c % 128) < 18446744073709551616 := by omega
  refine ⟨?_, hlt⟩
  have e1 : IntKind.u64.wrap ((c % 128 : Nat) : Int) = ((c % 128 : Nat) : Int) := by rw [IntKind.wrap_u64]; omega
  have e2 : (((c % 128 : Nat) : Int) * 2 ^ (7 * k)) = ((2 ^ (7 * k) * (c % 128) : Nat) : Int) := by rw [Int.natCast_mul, Int.natCast_pow, Int.mul_comm]; rfl
  have e3 : IntKind.u64.wrap ((2 ^ (7 * k) * (c % 128) : Nat) : Int) = ((2 ^ (7 * k) * (c % 128) : Nat) : Int) := by rw [IntKind.wrap_u64]; omega
  rw [u8_and127 c hc, e1, e2, e3, u64_or _ _ (by omega) (by omega)]
  congr 1
  rw [Nat.or_comm, ← Nat.two_pow_add_eq_or_of_lt ha, Nat.add_comm]
theorem rdU_err1 {k : Nat} {l : List UInt8} (hk : k < l.length) (h : k = 9 ∧ l[k].toNat ≠ 1) : rdU k (l.drop k) = none ∧ errU k (l.drop k) = 11 := by
  rw [List.drop_eq_getElem_cons hk, rdU, errU, if_pos h, if_pos h]; exact ⟨rfl, rfl⟩
theorem rdU_err2 {k : Nat} {l : List UInt8} (hk : k < l.length) (h1 : ¬ (k = 9 ∧ l[k].toNat ≠ 1)) (h : 0 < k ∧ l[k].toNat = 0) : rdU k (l.drop k) = none ∧ errU k (l.drop k) = 11 := by
  rw [List.drop_eq_getElem_cons hk, rdU, errU, if_neg h1, if_neg h1, if_pos h, if_pos h]; exact ⟨rfl, rfl⟩
theorem rdU_end {k : Nat} {l : List UInt8} (hk : k < l.length) (h1 : ¬ (k = 9 ∧ l[k].toNat ≠ 1)) (h2 : ¬ (0 < k ∧ l[k].toNat = 0)) (h : l[k].toNat < 128) : rdU k (l.drop k) = some (l[k].toNat, 1) ∧ errU k (l.drop k) = 0 := by
  rw [List.drop_eq_getElem_cons hk, rdU, errU, if_neg h1, if_neg h1, if_neg h2, if_neg h2, if_pos h, if_pos h]; exact ⟨rfl, rfl⟩
theorem rdU_next {k : Nat} {l : List UInt8} (hk : k < l.length) (h1 : ¬ (k = 9 ∧ l[k].toNat ≠ 1)) (h2 : ¬ (0 < k ∧ l[k].toNat = 0)) (h : ¬ l[k].toNat < 128) :
    rdU k (l.drop k) = (rdU (k + 1) (l.drop (k + 1))).map (fun x => (l[k].toNat % 128 + 128 * x.1, x.2 + 1)) ∧ errU k (l.drop k) = errU (k + 1) (l.drop (k + 1)) := by
  rw [List.drop_eq_getElem_cons hk, rdU, errU, if_neg h1, if_neg h1, if_neg h2, if_neg h2, if_neg h, if_neg h]; exact ⟨rfl, rfl⟩
theorem rdU_nil {k : Nat} {l : List UInt8} (hk : l.length ≤ k) : rdU k (l.drop k) = none ∧ errU k (l.drop k) = 10 := by
  rw [List.drop_of_length_le hk]; exact ⟨rfl, rfl⟩
/-- What ReadUvarint answers. -/
def UvAns (l : List UInt8) (e : Ending) : Prop := (∃ v k : Nat, rdE l = some (v, k) ∧ v < 18446744073709551616 ∧ k ≤ l.length ∧ 0 < k ∧ errU 0 l = 0 ∧ e = .returned (.tuple #[.int .u64 v, .int .i64 k, .int .i64 0])) ∨
  (rdE l = none ∧ (errU 0 l = 10 ∨ errU 0 l = 11) ∧ e = .returned (.tuple #[.int .u64 0, .int .i64 0, .int .i64 (errU 0 l)]))

set_option maxRecDepth 100000 in
set_option maxHeartbeats 4000000 in
theorem octReadU (A : Option Addr) (n c : Nat) (l : List UInt8) (w : World) (hA : Rd w w.heap.size A (bv l)) (hn : l.length = n) (hmx : n ≤ 140737488355328) :
    Calls Tryz.prog 93 #[.slice A n c] w fun e w' =>
      UvAns l e ∧ w = w' := by
  have Hn := Lib.hid hn
  clear hn
  go_enter Tryz.func93, Tryz.ntmps93
  go_wp2
  go_loop [5, 10] (fun v i => ∃ (k acc : Nat), k ≤ n ∧ k < 10 ∧ i = .int .i64 k ∧ v = .int .u64 acc ∧ acc < 2 ^ (7 * k) ∧ rdE l = (rdU k (l.drop k)).map (fun x => (acc + 2 ^ (7 * k) * x.1, k + x.2)) ∧ errU 0 l = errU k (l.drop k))
    (fun _ i => n - (intOf i).toNat)
  case atStart => exact ⟨0, 0, by omega, by omega, rfl, rfl, by omega, by simp [rdE], rfl⟩
  case round =>
    obtain ⟨k, acc, hk, hk10, rfl, rfl, ha, hr, he⟩ := hrel
    have Ha := Lib.hid ha
    have Hr := Lib.hid hr
    have He := Lib.hid he
    clear ha hr he
    by_cases hlt : k < n
    · have hkl : k < l.length := by rw [Hn.out]; exact hlt
      obtain ⟨ad, rfl, _, hc⟩ := hA k (.int .u8 l[k].toNat) (by simp [bv, hkl])
      generalize hcc : l[k].toNat = cc at hc
      have Hcc := Lib.hid hcc
      clear hcc
      have hc256 : cc < 256 := by rw [← Hcc.out]; exact l[k].toNat_lt
      have hbnd : cc < 256 := hc256
      by_cases h1 : k = 9 ∧ cc ≠ 1
      · obtain ⟨q1, q2⟩ := rdU_err1 hkl (by rw [Hcc.out]; exact h1)
        have HA : Hid (UvAns l (.returned (.tuple #[.int .u64 0, .int .i64 0, .int .i64 11]))) :=
          .inr ⟨by rw [Hr.out, q1]; rfl, .inr (by rw [He.out, q2]), by rw [He.out, q2]⟩
        have b1 : ((k : Int) == 9) = true := by simp; omega
        have b2 : ((cc : Int) != 1) = true := by simp; omega
        clear h1 q1 q2
        go_wp2
        go_ret3
        exact ⟨HA.out, rfl⟩
      by_cases h2 : 0 < k ∧ cc = 0
      · obtain ⟨q1, q2⟩ := rdU_err2 hkl (by rw [Hcc.out]; exact h1) (by rw [Hcc.out]; exact h2)
        have HA : Hid (UvAns l (.returned (.tuple #[.int .u64 0, .int .i64 0, .int .i64 11]))) :=
          .inr ⟨by rw [Hr.out, q1]; rfl, .inr (by rw [He.out, q2]), by rw [He.out, q2]⟩
        have b1 : ((k : Int) == 9) = false := by simp; omega
        have b2 : ((cc : Int) == 0) = true := by simp; omega
        have b3 : 0 < k := by omega
        clear h1 h2 q1 q2
        go_wp2
        go_ret3
        exact ⟨HA.out, rfl⟩
      have b2 : Hid (k = 9 → cc = 1) := fun h => Classical.byContradiction fun hn => h1 ⟨h, hn⟩
      obtain ⟨hsh, hlt64⟩ := shl_or acc cc k hc256 hk10 Ha.out b2.out
      by_cases h3 : cc < 128
      · obtain ⟨q1, q2⟩ := rdU_end hkl (by rw [Hcc.out]; exact h1) (by rw [Hcc.out]; exact h2) (by rw [Hcc.out]; exact h3)
        rw [Hcc.out] at q1
        have HA : Hid (UvAns l (.returned (.tuple #[.int .u64 ((acc + 2 ^ (7 * k) * (cc % 128) : Nat) : Int), .int .i64 ((k : Int) + 1), .int .i64 0]))) :=
          .inl ⟨_, k + 1, by rw [Hr.out, q1, Nat.mod_eq_of_lt h3]; rfl, hlt64, by omega, by omega, by rw [He.out, q2], rfl⟩
        have c1 : (((k : Int) == 9) && ((cc : Int) != 1)) = false := by
          by_cases hk9 : k = 9
          · rw [b2.out hk9]; simp
          simp; omega
        have c2 : 0 < k → ((cc : Int) == 0) = false := by
          intro hk0
          simp; omega
        have C2 := Lib.hid c2
        clear c2
        clear h1 h2 q1 q2 b2 hlt64
        generalize acc + 2 ^ (7 * k) * (cc % 128) = tot at hsh HA
        by_cases hk9 : k = 9
        · have b1 : ((k : Int) == 9) = true := by simp; omega
          simp only [b1, Bool.true_and] at c1
          have b3 : 0 < k := by omega
          have c2 := C2.out b3
          clear hk9
          go_wp2
          go_ret3
          exact ⟨HA.out, rfl⟩
        have b1 : ((k : Int) == 9) = false := by simp; omega
        clear c1
        by_cases hk0 : 0 < k
        · have b3 : 0 < k := by omega
          have c2 := C2.out b3
          go_wp2
          go_ret3
          exact ⟨HA.out, rfl⟩
        have b3 : ¬ 0 < k := by omega
        go_wp2
        go_ret3
        exact ⟨HA.out, rfl⟩
      have hk9 : k ≠ 9 := fun h => by have := b2.out h; omega
      obtain ⟨q1, q2⟩ := rdU_next hkl (by rw [Hcc.out]; exact h1) (by rw [Hcc.out]; exact h2) (by rw [Hcc.out]; exact h3)
      rw [Hcc.out] at q1
      have b1 : ((k : Int) == 9) = false := by simp; omega
      have b3 : ((cc : Int) == 0) = false := by simp; omega
      have Q := Lib.hid (And.intro q1 q2)
      have HT : Hid (acc + 2 ^ (7 * k) * (cc % 128) < 2 ^ (7 * (k + 1))) := by
        have h4 : cc % 128 < 128 := Nat.mod_lt _ (by omega)
        have h5 := Ha.out
        have h6 : (2 : Nat) ^ (7 * (k + 1)) = 2 ^ (7 * k) * 128 := by rw [show 7 * (k + 1) = 7 * k + 7 by omega, Nat.pow_add]
        have h7 : 2 ^ (7 * k) * (cc % 128) + 2 ^ (7 * k) ≤ 2 ^ (7 * k) * 128 := by
          have h3 : 2 ^ (7 * k) * (cc % 128) + 2 ^ (7 * k) = 2 ^ (7 * k) * (cc % 128 + 1) := by rw [Nat.mul_add, Nat.mul_one]
          rw [h3]; exact Nat.mul_le_mul_left _ (by omega)
        show _ < _
        omega
      clear h1 h2 q1 q2 b2 hlt64
      generalize hte : acc + 2 ^ (7 * k) * (cc % 128) = tot at hsh HT
      have HTE := Lib.hid hte
      clear hte
      by_cases hk0 : 0 < k
      all_goals
        go_wp2
        go_round
        case rel =>
          refine ⟨k + 1, tot, by omega, by omega, by go_num, rfl, HT.out, ?_, by rw [He.out, Q.out.2]⟩
          rw [Hr.out, Q.out.1, Option.map_map, ← HTE.out]
          congr 1
          funext x
          have h6 : (2 : Nat) ^ (7 * (k + 1)) = 2 ^ (7 * k) * 128 := by rw [show 7 * (k + 1) = 7 * k + 7 by omega, Nat.pow_add]
          have h7 : 2 ^ (7 * k) * (cc % 128 + 128 * x.1) = 2 ^ (7 * k) * (cc % 128) + 2 ^ (7 * (k + 1)) * x.1 := by rw [h6, Nat.mul_add, Nat.mul_assoc]
          simp only [Function.comp, Prod.mk.injEq]
          exact ⟨by rw [h7, Nat.add_assoc], by omega⟩
        case measure => simp [intOf]; omega
    obtain ⟨q1, q2⟩ := rdU_nil (k := k) (l := l) (by rw [Hn.out]; omega)
    have HA : Hid (UvAns l (.returned (.tuple #[.int .u64 0, .int .i64 0, .int .i64 10]))) :=
      .inr ⟨by rw [Hr.out, q1]; rfl, .inl (by rw [He.out, q2]), by rw [He.out, q2]⟩
    clear q1 q2
    go_wp2
    go_ret3
    exact ⟨HA.out, rfl⟩
end Go.Proofs.YtmhlgbpgdhhfnaaGreat
namespace Go.Proofs.YtmhlgbpgdhhfnaaGreat
open Go.RowKit Go.Maps

/-! A reader as a plain machine. -/
structure RSt where
  at_ : Nat
  fl : Bool
def uvS (l : List UInt8) (s : RSt) : Nat × RSt :=
  if s.fl then (0, s) else match rdE (l.drop s.at_) with
    | some (v, k) => (v, ⟨s.at_ + k, false⟩)
    | none => (0, ⟨l.length, true⟩)
def txS (most : Nat) (l : List UInt8) (s : RSt) : List UInt8 × RSt :=
  if s.fl then ([], s) else match rdE (l.drop s.at_) with
    | none => ([], ⟨l.length, true⟩)
    | some (v, k) => if v ≤ most ∧ v ≤ l.length - (s.at_ + k) then ((l.drop (s.at_ + k)).take v, ⟨s.at_ + k + v, false⟩) else ([], ⟨l.length, true⟩)
theorem octReadU_some (A : Option Addr) (n c v k : Nat) (l : List UInt8) (w : World) (hr : rdE l = some (v, k)) (hA : Rd w w.heap.size A (bv l)) (hn : l.length = n) (hmx : n ≤ 140737488355328) :
    Calls Tryz.prog 93 #[.slice A n c] w fun e w' => e = .returned (.tuple #[.int .u64 v, .int .i64 k, .int .i64 0]) ∧ w = w' :=
  (octReadU A n c l w hA hn hmx).mono fun e w' ⟨h, hw⟩ => ⟨(by
    rcases h with ⟨v', k', h1, _, _, _, _, h2⟩ | ⟨h1, _⟩
    · rw [hr] at h1; cases h1; exact h2
    rw [hr] at h1; cases h1), hw⟩
theorem octReadU_none (A : Option Addr) (n c : Nat) (l : List UInt8) (w : World) (x : Int) (hr : rdE l = none) (hx : errU 0 l = x) (hA : Rd w w.heap.size A (bv l)) (hn : l.length = n) (hmx : n ≤ 140737488355328) :
    Calls Tryz.prog 93 #[.slice A n c] w fun e w' => e = .returned (.tuple #[.int .u64 0, .int .i64 0, .int .i64 x]) ∧ w = w' :=
  (octReadU A n c l w hA hn hmx).mono fun e w' ⟨h, hw⟩ => ⟨(by
    rcases h with ⟨v', k', h1, _⟩ | ⟨_, _, h2⟩
    · rw [hr] at h1; cases h1
    rw [hx] at h2; exact h2), hw⟩
/-- What rdE answers, in bounds. -/
theorem rdU_bound : ∀ (l : List UInt8) (i v k : Nat), i < 10 → rdU i l = some (v, k) → 0 < k ∧ k ≤ l.length ∧ v * 2 ^ (7 * i) < 18446744073709551616 ∧ i + k ≤ 10
  | [], _, _, _, _, h => by cases h
  | c :: r, i, v, k, hi, h => by
    rw [rdU] at h
    have hc : c.toNat < 256 := c.toNat_lt
    split at h
    · cases h
    rename_i h1
    split at h
    · cases h
    rename_i h2
    have hp : i = 9 → c.toNat = 1 := fun e => Classical.byContradiction fun hn => h1 ⟨e, hn⟩
    split at h
    · cases h
      have h9 : c.toNat * 2 ^ (7 * i) < 18446744073709551616 := by
        rcases Nat.lt_or_ge i 9 with h9 | h9
        · have h4 : (2 : Nat) ^ (7 * i) ≤ 2 ^ 56 := Nat.pow_le_pow_right (by omega) (by omega)
          have h5 := Nat.mul_le_mul (show c.toNat ≤ 127 by omega) h4
          omega
        obtain rfl : i = 9 := by omega
        rw [hp rfl]; decide
      exact ⟨by omega, by simp, h9, by omega⟩
    rename_i h3
    rcases hh : rdU (i + 1) r with _ | ⟨v', k'⟩
    · rw [hh] at h; cases h
    rw [hh] at h
    simp only [Option.map_some, Option.some.injEq, Prod.mk.injEq] at h
    obtain ⟨rfl, rfl⟩ := h
    have hi9 : i ≠ 9 := fun e => by have := hp e; omega
    obtain ⟨b1, b2, b3, b4⟩ := rdU_bound r (i + 1) v' k' (by omega) hh
    refine ⟨by omega, by simp; omega, ?_, by omega⟩
    have e1 : (2 : Nat) ^ (7 * (i + 1)) = 2 ^ (7 * i) * 128 := by rw [show 7 * (i + 1) = 7 * i + 7 by omega, Nat.pow_add]
    rw [e1] at b3
    have e2 : (c.toNat % 128 + 128 * v') * 2 ^ (7 * i) = c.toNat % 128 * 2 ^ (7 * i) + v' * (2 ^ (7 * i) * 128) := by
      rw [Nat.add_mul, Nat.mul_comm 128 v', Nat.mul_assoc v', Nat.mul_comm 128]
    rw [e2]
    have e3 : v' * (2 ^ (7 * i) * 128) = 2 ^ (7 * i) * (128 * v') := by rw [Nat.mul_comm, Nat.mul_assoc]
    -- both summands are multiples of 2^(7i), and 2^64 is one as well
    have h6 : c.toNat % 128 < 128 := Nat.mod_lt _ (by omega)
    have e4 : (18446744073709551616 : Nat) = 2 ^ (7 * i) * 2 ^ (64 - 7 * i) := by rw [← Nat.pow_add, show 7 * i + (64 - 7 * i) = 64 by omega]
    have e5 : (2 : Nat) ^ (64 - 7 * i) = 128 * 2 ^ (57 - 7 * i) := by rw [show 64 - 7 * i = 7 + (57 - 7 * i) by omega, Nat.pow_add]
    have hpos : 0 < (2 : Nat) ^ (7 * i) := Nat.pow_pos (by omega)
    rw [e3, e4, e5] at b3
    have b5 : 128 * v' < 128 * 2 ^ (57 - 7 * i) := Nat.lt_of_mul_lt_mul_left b3
    have b6 : v' + 1 ≤ 2 ^ (57 - 7 * i) := by omega
    have b7 : c.toNat % 128 + 128 * v' < 128 * 2 ^ (57 - 7 * i) := by omega
    rw [e3, Nat.mul_comm (c.toNat % 128), ← Nat.mul_add, e4, e5]
    exact Nat.mul_lt_mul_of_pos_left b7 hpos
theorem rdE_bound {l : List UInt8} {v k : Nat} (h : rdE l = some (v, k)) : 0 < k ∧ k ≤ l.length ∧ v < 18446744073709551616 := by
  have := rdU_bound l 0 v k (by omega) h
  omega
theorem errU_ne : ∀ (l : List UInt8) (i : Nat), rdU i l = none → errU i l = 10 ∨ errU i l = 11
  | [], _, _ => .inl rfl
  | c :: r, i, h => by
    rw [rdU] at h
    rw [errU]
    split at h
    · rename_i h1; rw [if_pos h1]; exact .inr rfl
    rename_i h1
    rw [if_neg h1]
    split at h
    · rename_i h2; rw [if_pos h2]; exact .inr rfl
    rename_i h2
    rw [if_neg h2]
    split at h
    · cases h
    rename_i h3
    rw [if_neg h3]
    rcases hh : rdU (i + 1) r with _ | x
    · exact errU_ne r (i + 1) hh
    rw [hh] at h; cases h
theorem uvS_le {l : List UInt8} {s : RSt} (h : s.at_ ≤ l.length) : (uvS l s).2.at_ ≤ l.length ∧ s.at_ ≤ (uvS l s).2.at_ ∧ (uvS l s).1 < 18446744073709551616 := by
  unfold uvS
  split
  · exact ⟨h, Nat.le_refl _, by simp⟩
  split
  · rename_i v k hr
    have := rdE_bound hr
    simp only [List.length_drop] at this
    simp only
    omega
  simp only; omega
theorem txS_le {most : Nat} {l : List UInt8} {s : RSt} (h : s.at_ ≤ l.length) : (txS most l s).2.at_ ≤ l.length ∧ s.at_ ≤ (txS most l s).2.at_ ∧ (txS most l s).1.length ≤ most := by
  unfold txS
  split
  · exact ⟨h, Nat.le_refl _, by simp⟩
  split
  · simp only [List.length_nil]; omega
  rename_i v k hr
  have := rdE_bound hr
  simp only [List.length_drop] at this
  split
  · simp only [List.length_take, List.length_drop]; omega
  simp only [List.length_nil]; omega
/-- A part of a row. -/
theorem Rd.drop_ {w : World} {B : Nat} {ad : Addr} {l : List UInt8} (h : Rd w B (some ad) (bv l)) (k : Nat) : Rd w B (some (ad.add k)) (bv (l.drop k)) := by
  intro j u hj
  obtain ⟨a2, e, hb, hc⟩ := h (k + j) u (by simpa [bv] using hj)
  cases e
  exact ⟨_, rfl, by rw [add_block]; exact hb, by rw [add_add']; exact hc⟩
theorem Rd.take_ {w : World} {B : Nat} {A : Option Addr} {l : List UInt8} (h : Rd w B A (bv l)) (k : Nat) : Rd w B A (bv (l.take k)) := by
  intro j u hj
  refine h j u ?_
  simp only [bv, List.getElem?_map, List.getElem?_take] at hj ⊢
  split at hj
  · exact hj
  cases hj
/-- 'b[at:]' of a row of bytes, whatever its room. -/
def tailA (b : Option Addr) (cap k : Nat) : Option Addr := if cap = k then b else b.map (·.add k)
theorem Rd.tail_ {w : World} {B : Nat} {b : Option Addr} {l : List UInt8} {cap : Nat} (h : Rd w B b (bv l)) (k : Nat) (hc : l.length ≤ cap) : Rd w B (tailA b cap k) (bv (l.drop k)) := by
  unfold tailA
  split
  · rename_i e
    subst e
    rw [List.drop_of_length_le hc]
    exact Rd.nil _ _ _
  cases b with
  | some ad => exact h.drop_ k
  | none =>
    intro j u hj
    obtain ⟨_, e, _⟩ := h (k + j) u (by simpa [bv] using hj)
    cases e
theorem run_tail (W : World) (t : TypeId) (ht : Tryz.prog.underlying t = some (.slice 5)) (hs : ∀ w, (Go.sizeOf 5).run Tryz.prog w = .ok 1 w) (b : Option Addr) (len cap k : Nat) (hk : k ≤ len) :
    (Instr.slice t (.slice b len cap) (some (.int .i64 (k : Int))) none none).run Tryz.prog W = .ok (.slice (tailA b cap k) (len - k) (cap - k)) W := by
  have he : Tryz.prog.elem t = 5 := by simp [Program.elem, ht]
  have ht' : Tryz.prog.underlying t = some (.slice (Tryz.prog.elem t)) := by rw [he]; exact ht
  rw [run_slice_l W t _ _ _ ht' .i64 _ (by omega) (by omega), he, hs]
  simp [Result.andThen, sliced, tailA]
end Go.Proofs.YtmhlgbpgdhhfnaaGreat
namespace Go.Proofs.YtmhlgbpgdhhfnaaGreat
open Go.RowKit Go.Maps

/-- An octet reader at block p: its bytes are l, it stands at s. -/
structure ORx (W : World) (p : Nat) (b : Option Addr) (cap : Nat) (er ea : Int) (l : List UInt8) (s : RSt) : Prop where
  box : Box W p 80 #[.slice b l.length cap, .int .i64 s.at_, .bool s.fl, .int .i64 er, .int .i64 ea]
  rd : Rd W p b (bv l)
  cap_ : l.length ≤ cap
  le : s.at_ ≤ l.length
  bad : s.fl = true → er ≠ 0
def ORd (W : World) (p : Nat) (l : List UInt8) (s : RSt) : Prop := ∃ b cap er ea, ORx W p b cap er ea l s
section
variable {W W' : World} {p cap : Nat} {b : Option Addr} {er ea : Int} {l : List UInt8} {s : RSt}
theorem ORx.chg {S : Nat → Prop} (h : ORx W p b cap er ea l s) (hc : Chg S W W') (hS : ∀ k, S k → p < k) : ORx W' p b cap er ea l s :=
  ⟨h.box.chg hc (fun e => by have := hS _ e; omega), h.rd.keep fun q hq => by
    have hk := hc.block q.block (by have := h.box.lt; omega) (fun e => by have := hS _ e; omega)
    simp [World.cell?, hk], h.cap_, h.le, h.bad⟩
theorem ORd.chg {S : Nat → Prop} (h : ORd W p l s) (hc : Chg S W W') (hS : ∀ k, S k → p < k) : ORd W' p l s :=
  let ⟨b, cap, er, ea, h⟩ := h; ⟨b, cap, er, ea, h.chg hc hS⟩
theorem ORd.lt (h : ORd W p l s) : p < W.heap.size := let ⟨_, _, _, _, h⟩ := h; h.box.lt
theorem ORd.below (h : ORd W p l s) (hb : Below W.heap.size W W') : ORd W' p l s := h.chg (Chg.of_below hb fun _ => False) (fun _ e => e.elim)
theorem ORd.le (h : ORd W p l s) : s.at_ ≤ l.length := let ⟨_, _, _, _, h⟩ := h; h.le
theorem ORx.drewN (h : ORx W p b cap er ea l s) (n : Nat) : ORx (W.drewN n) p b cap er ea l s := ⟨h.box, h.rd, h.cap_, h.le, h.bad⟩
theorem ORx.set_at (h : ORx W p b cap er ea l s) {k : Nat} (hk : k ≤ l.length) : ORx (W.setCell ⟨p, 1, none⟩ (.int .i64 k)) p b cap er ea l ⟨k, s.fl⟩ := by
  refine ⟨?_, h.rd.keep fun q hq => ?_, h.cap_, hk, h.bad⟩
  · simpa using h.box.set_ 1 (.int .i64 k)
  have := Below.heap_setCell W ⟨p, 1, none⟩ (.int .i64 k) q.block (by show q.block ≠ p; omega)
  simp [World.cell?, this]
end
theorem sizeU8 : ∀ w, (Go.sizeOf 5).run Tryz.prog w = .ok 1 w := fun _ => by kernel_rfl
theorem quiet_two {P : Program} {f : FuncId} {args : Array Value} {w : World} {v : Value} (h : Calls P f args w fun e w' => e = .returned v ∧ w = w') : Calls P f args w fun e w' => e = .returned v ∧ ∃ n, w' = w.drewN n :=
  h.mono fun e w' ⟨he, hw⟩ => ⟨he, 0, by rw [← hw]; rfl⟩

theorem Chg.set1 {S : Nat → Prop} {a w : World} {p : Nat} (h : Chg S a w) (hp : S p) (i : Nat) (u : Value) : Chg S a (w.setCell ⟨p, i, none⟩ u) := h.setCell (.inl hp) u
theorem Chg.set4 (w : World) {p : Nat} (u1 u2 u3 u4 : Value) : Chg (fun k => k = p) w ((((w.setCell ⟨p, 2, none⟩ u1).setCell ⟨p, 3, none⟩ u2).setCell ⟨p, 4, none⟩ u3).setCell ⟨p, 1, none⟩ u4) :=
  ((((Chg.refl (fun k => k = p) w).set1 rfl _ _).set1 rfl _ _).set1 rfl _ _).set1 rfl _ _

set_option maxRecDepth 100000 in
theorem octPlace (p : Nat) (b : Option Addr) (cap : Nat) (er ea : Int) (l : List UInt8) (s : RSt) (w : World) (h : ORx w p b cap er ea l s) :
    Calls Tryz.prog 84 #[.pointer (some ⟨p, 0, none⟩)] w fun e w' => e = .returned (.int .i64 s.at_) ∧ w = w' := by
  have hc := h.box.cell
  have hl := h.box.lt
  obtain ⟨at_, fl⟩ := s
  simp only at hc
  have H := Lib.hid h
  clear h
  go_enter Tryz.func84, Tryz.ntmps84
  go_wp2
  go_ret
  exact ⟨rfl, rfl⟩

set_option maxRecDepth 100000 in
theorem octFailAt0 (p : Nat) (b : Option Addr) (cap : Nat) (er ea x : Int) (l : List UInt8) (at_ : Nat) (w : World) (h : ORx w p b cap er ea l ⟨at_, false⟩) :
    Calls Tryz.prog 83 #[.pointer (some ⟨p, 0, none⟩), .int .i64 0, .int .i64 x] w fun e w' => e = .returned (.tuple #[]) ∧ w = w' := by
  have hc := h.box.cell
  have hl := h.box.lt
  simp only at hc
  clear h
  go_enter Tryz.func83, Tryz.ntmps83
  go_wp2
  exact bodyPost_ret (v := .tuple #[]) (by simp [results, Tryz.results83, go_sem]) rfl ⟨rfl, rfl⟩

set_option maxRecDepth 100000 in
set_option maxHeartbeats 1000000 in
theorem octFailAt1 (p : Nat) (b : Option Addr) (cap : Nat) (er ea y x : Int) (l : List UInt8) (at_ : Nat) (w : World) (h : ORx w p b cap er ea l ⟨at_, false⟩) (hy : y ≠ 0) :
    Calls Tryz.prog 83 #[.pointer (some ⟨p, 0, none⟩), .int .i64 y, .int .i64 x] w fun e w' => e = .returned (.tuple #[]) ∧ ORx w' p b cap y x l ⟨l.length, true⟩ ∧ Chg (fun k => k = p) w w' := by
  have hc := h.box.cell
  have hf := h.box.free
  have hl := h.box.lt
  have hy1 : (y == 0) = false := by simpa using hy
  have H := Lib.hid h
  have Hy := Lib.hid hy
  simp only at hc
  clear h hy
  go_enter Tryz.func83, Tryz.ntmps83
  go_wp2
  go_end0
  refine ⟨rfl, ⟨?_, H.out.rd.keep fun q hq => ?_, H.out.cap_, Nat.le_refl _, fun _ => Hy.out⟩, ?_⟩
  · have h2 := ((((H.out.box.set_ 2 (.bool true)).set_ 3 (.int .i64 y)).set_ 4 (.int .i64 x)).set_ 1 (.int .i64 l.length))
    simpa using h2
  · have hb : ∀ W i u, (World.setCell W ⟨p, i, none⟩ u).heap[q.block]? = W.heap[q.block]? := fun W i u => Below.heap_setCell W ⟨p, i, none⟩ u q.block (by show q.block ≠ p; omega)
    simp [World.cell?, hb]
  exact Chg.set4 _ _ _ _ _
end Go.Proofs.YtmhlgbpgdhhfnaaGreat
namespace Go.Proofs.YtmhlgbpgdhhfnaaGreat
open Go.RowKit Go.Maps

set_option maxRecDepth 100000 in
theorem octFail0 (p : Nat) (b : Option Addr) (cap : Nat) (er ea : Int) (l : List UInt8) (at_ : Nat) (w : World) (h : ORx w p b cap er ea l ⟨at_, false⟩) :
    Calls Tryz.prog 68 #[.pointer (some ⟨p, 0, none⟩), .int .i64 0] w fun e w' => e = .returned (.tuple #[]) ∧ w = w' := by
  have H := Lib.hid h
  clear h
  go_enter Tryz.func68, Tryz.ntmps68
  go_wp2_with (first
    | (go_at_call 84; refine (octPlace p b cap er ea l _ _ H.out).mono ?_; rintro e w1 ⟨rfl, rfl⟩)
    | (go_at_call 83; refine (octFailAt0 p b cap er ea _ l at_ _ H.out).mono ?_; rintro e w2 ⟨rfl, rfl⟩))
  go_end0
  exact ⟨rfl, rfl⟩
set_option maxRecDepth 100000 in
theorem octFail1 (p : Nat) (b : Option Addr) (cap : Nat) (er ea y : Int) (l : List UInt8) (at_ : Nat) (w : World) (h : ORx w p b cap er ea l ⟨at_, false⟩) (hy : y ≠ 0) :
    Calls Tryz.prog 68 #[.pointer (some ⟨p, 0, none⟩), .int .i64 y] w fun e w' => e = .returned (.tuple #[]) ∧ ORx w' p b cap y at_ l ⟨l.length, true⟩ ∧ Chg (fun k => k = p) w w' := by
  have H := Lib.hid h
  have Hy := Lib.hid hy
  clear h hy
  go_enter Tryz.func68, Tryz.ntmps68
  go_wp2_with (first
    | (go_at_call 84; refine (octPlace p b cap er ea l _ _ H.out).mono ?_; rintro e w1 ⟨rfl, rfl⟩)
    | (go_at_call 83; refine (octFailAt1 p b cap er ea y _ l at_ _ H.out Hy.out).mono ?_; rintro e w2 ⟨rfl, h2, h3⟩; have H2 := Lib.hid (And.intro h2 h3); clear h2 h3))
  go_end0
  exact ⟨rfl, H2.out.1, H2.out.2⟩

set_option maxRecDepth 100000 in
theorem octRest (p : Nat) (b : Option Addr) (cap : Nat) (er ea : Int) (l : List UInt8) (s : RSt) (w : World) (h : ORx w p b cap er ea l s) (hmx : l.length ≤ 140737488355328) :
    Calls Tryz.prog 69 #[.pointer (some ⟨p, 0, none⟩)] w fun e w' => e = .returned (.int .i64 ((l.length : Int) - s.at_)) ∧ ∃ n, w' = w.drewN n := by
  have hc := h.box.cell
  have hl := h.box.lt
  have hle := h.le
  obtain ⟨at_, fl⟩ := s
  simp only at hc hle
  clear h
  go_enter Tryz.func69, Tryz.ntmps69
  go_wp2
  go_quiet (fail)
  go_wp2
  go_ret
  exact ⟨rfl, _, rfl⟩

/-- What a reading call leaves: the answer, the reader behind it, nothing else changed. -/
def RAft (p : Nat) (l : List UInt8) (s : RSt) (w w' : World) : Prop := ORd w' p l s ∧ Chg (fun k => k = p) w w'
theorem RAft.same {p : Nat} {b : Option Addr} {cap : Nat} {er ea : Int} {l : List UInt8} {s : RSt} {w : World} (h : ORx w p b cap er ea l s) : RAft p l s w w := ⟨⟨_, _, _, _, h⟩, Chg.refl _ _⟩

set_option maxRecDepth 100000 in
set_option maxHeartbeats 2000000 in
theorem octUvX (p : Nat) (b : Option Addr) (cap : Nat) (er ea : Int) (l : List UInt8) (s : RSt) (w : World) (h : ORx w p b cap er ea l s) (hmx : l.length ≤ 140737488355328) :
    Calls Tryz.prog 85 #[.pointer (some ⟨p, 0, none⟩)] w fun e w' => e = .returned (.int .u64 (uvS l s).1) ∧ RAft p l (uvS l s).2 w w' := by
  have hc := h.box.cell
  have hf := h.box.free
  have hl := h.box.lt
  have hle := h.le
  have hcp := h.cap_
  have H := Lib.hid h
  obtain ⟨at_, fl⟩ := s
  simp only at hc hle
  clear h
  cases fl with
  | true =>
    go_enter Tryz.func85, Tryz.ntmps85
    go_wp2
    go_ret
    exact ⟨rfl, RAft.same H.out⟩
  | false =>
    have hsl := fun W => run_tail W 22 Tryz.underlying22 sizeU8 b l.length cap at_ hle
    have hrd : ∀ n, Rd (w.drewN n) (w.drewN n).heap.size (tailA b cap at_) (bv (l.drop at_)) := fun n => (H.out.rd.tail_ at_ hcp).mono (Nat.le_of_lt hl)
    have Hrd := Lib.hid hrd
    have hlen : (l.drop at_).length = l.length - at_ := by simp
    have Hlen := Lib.hid hlen
    clear hrd hlen
    cases hr : rdE (l.drop at_) with
    | some x =>
      obtain ⟨v, k⟩ := x
      have hb := rdE_bound hr
      rw [Hlen.out] at hb
      obtain ⟨b1, b2, b3⟩ := hb
      have HR := Lib.hid hr
      have HU : Hid (uvS l ⟨at_, false⟩ = (v, ⟨at_ + k, false⟩)) := by unfold uvS; rw [hr]; rfl
      clear hr
      go_enter Tryz.func85, Tryz.ntmps85
      go_wp2
      go_quiet ((go_at_call 93; exact Calls.quiet_of (quiet_two (octReadU_some (tailA b cap at_) (l.length - at_) (cap - at_) v k _ _ HR.out (Hrd.out _) Hlen.out (by omega)))))
      go_wp2_with (go_at_call 68; refine (octFail0 p b cap er ea l at_ _ (H.out.drewN _)).mono ?_; rintro e w1 ⟨rfl, rfl⟩)
      go_ret
      rw [HU.out]
      have h2 := (H.out.drewN nq).set_at (k := at_ + k) (by omega)
      exact ⟨rfl, ⟨_, _, _, _, by simpa using h2⟩, ((Chg.refl (fun j => j = p) w).drewN nq).set1 rfl _ _⟩
    | none =>
      have HR := Lib.hid hr
      have HU : Hid (uvS l ⟨at_, false⟩ = (0, ⟨l.length, true⟩)) := by unfold uvS; rw [hr]; rfl
      have he := errU_ne _ _ hr
      generalize hx : errU 0 (l.drop at_) = x at he
      have Hx := Lib.hid hx
      have Hne : Hid (x ≠ 0) := by show x ≠ 0; omega
      clear hr hx he
      go_enter Tryz.func85, Tryz.ntmps85
      go_wp2
      go_quiet ((go_at_call 93; exact Calls.quiet_of (quiet_two (octReadU_none (tailA b cap at_) (l.length - at_) (cap - at_) _ _ x HR.out Hx.out (Hrd.out _) Hlen.out (by omega)))))
      go_wp2_with (go_at_call 68; refine (octFail1 p b cap er ea x l at_ _ (H.out.drewN _) Hne.out).mono ?_; rintro e w1 ⟨rfl, h2, h3⟩; have hc2 := h2.box.cell; have hl2 := h2.box.lt; have H2 := Lib.hid (And.intro h2 h3); clear h2 h3)
      go_ret
      rw [HU.out]
      exact ⟨rfl, ⟨_, _, _, _, H2.out.1⟩, ((Chg.refl (fun j => j = p) w).drewN nq).trans H2.out.2⟩
theorem octUv (p : Nat) (l : List UInt8) (s : RSt) (w : World) (h : ORd w p l s) (hmx : l.length ≤ 140737488355328) :
    Calls Tryz.prog 85 #[.pointer (some ⟨p, 0, none⟩)] w fun e w' => e = .returned (.int .u64 (uvS l s).1) ∧ RAft p l (uvS l s).2 w w' := by
  obtain ⟨b, cap, er, ea, h⟩ := h
  exact octUvX p b cap er ea l s w h hmx
end Go.Proofs.YtmhlgbpgdhhfnaaGreat
namespace Go.Proofs.YtmhlgbpgdhhfnaaGreat
open Go.RowKit Go.Maps

theorem run_str (W : World) (B : Nat) (A : Option Addr) (n cap : Nat) (l : List UInt8) (hn : l.length = n) (hA : Rd W B A (bv l)) :
    (convert 22 9 (.slice A n cap)).run Tryz.prog W = .ok (.string ⟨l.toArray⟩) W := by
  cases A with
  | some ad =>
    subst hn
    refine run_convert_bytes_back W 22 9 5 ad cap l Tryz.underlying22 Tryz.underlying5 Tryz.underlying9 fun j hj => ?_
    obtain ⟨_, e, _, hc⟩ := hA j (.int .u8 l[j].toNat) (by simp [bv, hj])
    cases e
    exact hc
  | none =>
    have hl : l = [] := by
      cases l with
      | nil => rfl
      | cons x r => obtain ⟨_, e, _⟩ := hA 0 (.int .u8 x.toNat) rfl; cases e
    subst hl
    subst hn
    rw [run_convert_bytes_string W 22 9 5 none _ cap Tryz.underlying22 Tryz.underlying5 Tryz.underlying9]
    simp [Conv.bytesToString]
    rfl
theorem run_part (W : World) (t : TypeId) (ht : Tryz.prog.underlying t = some (.slice 5)) (hs : ∀ w, (Go.sizeOf 5).run Tryz.prog w = .ok 1 w) (b : Option Addr) (len cap k m : Nat) (h : Int) (hh : h = k + m) (hm : k + m ≤ cap) :
    (Instr.slice t (.slice b len cap) (some (.int .i64 (k : Int))) (some (.int .i64 h)) none).run Tryz.prog W = .ok (.slice (tailA b cap k) m (cap - k)) W := by
  have he : Tryz.prog.elem t = 5 := by simp [Program.elem, ht]
  have ht' : Tryz.prog.underlying t = some (.slice (Tryz.prog.elem t)) := by rw [he]; exact ht
  subst hh
  rw [run_slice_lh W t _ _ _ ht' .i64 .i64 _ _ (by omega) (by omega) (by omega), he, hs]
  have e : ((k : Int) + m).toNat = k + m := by omega
  simp [Result.andThen, sliced, tailA, e]

set_option maxRecDepth 100000 in
set_option maxHeartbeats 2000000 in
theorem octTake (p : Nat) (b : Option Addr) (cap n : Nat) (er ea : Int) (l : List UInt8) (at_ : Nat) (w : World) (h : ORx w p b cap er ea l ⟨at_, false⟩) (hn : at_ + n ≤ l.length) (hmx : l.length ≤ 140737488355328) :
    Calls Tryz.prog 47 #[.pointer (some ⟨p, 0, none⟩), .int .i64 n] w fun e w' => e = .returned (.slice (tailA b cap at_) n (cap - at_)) ∧ ORx w' p b cap er ea l ⟨at_ + n, false⟩ ∧ Chg (fun k => k = p) w w' := by
  have hc := h.box.cell
  have hf := h.box.free
  have hl := h.box.lt
  have hcp := h.cap_
  simp only at hc
  have hd : ∀ n : Nat, (w.drewN n).heap = w.heap := fun _ => rfl
  have H := Lib.hid h
  have hsl := fun W x hx => run_part W 22 Tryz.underlying22 sizeU8 b l.length cap at_ n x hx (by omega)
  have hsl1 := fun W => hsl W (at_ + n) rfl
  have hw1 : IntKind.i64.wrap ((at_ : Int) + n - n) = at_ := by rw [show (at_ : Int) + n - n = at_ by omega]; exact Go.IntWalk.i64_in _ (by omega)
  have hw2 : IntKind.i64.wrap (at_ : Int) = at_ := Go.IntWalk.i64_in _ (by omega)
  have Hw1 := Lib.hid hw1
  have Hw2 := Lib.hid hw2
  have Hsl := Lib.hid hsl1
  clear h hsl hsl1 hw1 hw2 hd
  go_enter Tryz.func47, Tryz.ntmps47
  go_wp2_with (go_at_call 69; refine (octRest p b cap er ea l _ _ H.out hmx).mono ?_; rintro e w1 ⟨rfl, m, rfl⟩)
  have h2 := (H.out.drewN m).set_at (k := at_ + n) hn
  have hc2 := h2.box.cell
  simp only [Int.natCast_add] at hc2
  have H2 := Lib.hid h2
  have hw1 := Hw1.out
  have hw2 := Hw2.out
  have hsl1 := Hsl.out
  clear h2 hc hf
  go_quiet (fail)
  go_wp2
  go_ret
  refine ⟨rfl, ?_, ?_⟩
  · have := H2.out.drewN nq
    simpa using this
  exact (((Chg.refl (fun j => j = p) w).drewN m).set1 rfl _ _).drewN nq
end Go.Proofs.YtmhlgbpgdhhfnaaGreat
namespace Go.Proofs.YtmhlgbpgdhhfnaaGreat
open Go.RowKit Go.Maps

set_option maxRecDepth 100000 in
set_option maxHeartbeats 2000000 in
theorem octNewR (A : Option Addr) (n c : Nat) (l : List UInt8) (w : World) (hA : Rd w w.heap.size A (bv l)) (hn : l.length = n) (hmx : n ≤ 140737488355328) :
    Calls Tryz.prog 24 #[.slice A n c] w fun e w' => ∃ p, e = .returned (.pointer (some ⟨p, 0, none⟩)) ∧ ORd w' p l ⟨0, false⟩ ∧ w.heap.size ≤ p ∧ Below w.heap.size w w' := by
  obtain ⟨i0, hi0, hz0, hs0, hy0⟩ := info_parts info_u8
  have HA := Lib.hid hA
  have Hn := Lib.hid hn
  clear hA hn
  go_enter Tryz.func24, Tryz.ntmps24
  go_wp2_with (at_builtin
               refine wpList_app _ rfl (.const (.slice none 0 0)) (.tmp 3) _ rfl w.heap.size 5 i0 _ 1 1 Tryz.underlying22 hi0 hz0 hs0 hy0 rfl (by omega) (.slice none 0 0) 0 [] rfl (World.ownsRow_nil _ _ _ _) _ A n c (bv l) rfl (by rw [bv_len, Hn.out, Nat.mul_one]) HA.out (one_bv _) (by unfold maxLen; omega) (by omega) (Nat.le_refl _) ?_
               intro v1 w1 hown hg _
               rw [Nat.zero_add, List.nil_append] at hown
               obtain ⟨b1, cap1, rfl⟩ := ownsRow_slice hown
               have H1 := Lib.hid (And.intro hown hg)
               clear hown hg)
  go_ret
  refine ⟨w1.heap.size, rfl, ⟨b1, cap1, 0, 0, ?_, ?_, ?_, Nat.zero_le _, fun e => by cases e⟩, H1.out.2.size, ?_⟩
  · rw [Hn.out]; exact Box.new w1 _ _
  · have h1 := ownsRow_rd H1.out.1
    exact h1.keep fun q hq => World.cell?_alloc_lt _ _ _ hq
  · rw [Hn.out]
    rcases H1.out.1.2 with ⟨hv, h0⟩ | ⟨g, c', cur, hv, _, _, hnc, _⟩
    · omega
    injection hv with _ _ e2
    omega
  exact ((Below.refl w.heap.size w).grown H1.out.2 (Nat.le_refl _) (fun k hk => by cases hk)).alloc H1.out.2.size _

/-- What Text answers, as a value. -/
def strV (l : List UInt8) : Value := .string ⟨l.toArray⟩

set_option maxRecDepth 100000 in
set_option maxHeartbeats 4000000 in
theorem octTx (p m : Nat) (l : List UInt8) (s : RSt) (w : World) (h : ORd w p l s) (hmx : l.length ≤ 140737488355328) (hm : m ≤ 1000000) :
    Calls Tryz.prog 71 #[.pointer (some ⟨p, 0, none⟩), .int .i64 m] w fun e w' => e = .returned (strV (txS m l s).1) ∧ RAft p l (txS m l s).2 w w' := by
  obtain ⟨b, cap, er, ea, h⟩ := h
  have hle := h.le
  have H := Lib.hid h
  obtain ⟨at_, fl⟩ := s
  simp only at hle
  clear h
  by_cases hbad : fl = true ∨ rdE (l.drop at_) = none
  · have HT : Hid ((txS m l ⟨at_, fl⟩).1 = [] ∧ (txS m l ⟨at_, fl⟩).2 = (uvS l ⟨at_, fl⟩).2 ∧ (uvS l ⟨at_, fl⟩).2.fl = true) := by
      show _ ∧ _
      rcases hbad with rfl | hr
      · exact ⟨rfl, rfl, rfl⟩
      cases fl with
      | true => exact ⟨rfl, rfl, rfl⟩
      | false => unfold txS uvS; rw [hr]; exact ⟨rfl, rfl, rfl⟩
    generalize hu : uvS l ⟨at_, fl⟩ = u at HT
    have Hu := Lib.hid hu
    clear hu hbad
    go_enter Tryz.func71, Tryz.ntmps71
    go_wp2_with (first
      | (go_at_call 84; refine (octPlace p b cap er ea l _ _ H.out).mono ?_; rintro e w1 ⟨rfl, rfl⟩)
      | (go_at_call 85; refine (octUvX p b cap er ea l _ _ H.out hmx).mono ?_; rintro e w1 ⟨he, h1, h2⟩; rw [Hu.out] at he h1; subst he; obtain ⟨b2, cap2, er2, ea2, hx⟩ := h1; have hc2 := hx.box.cell; have hl2 := hx.box.lt; rw [HT.out.2.2] at hc2; have HX := Lib.hid (And.intro hx h2); clear hx h2))
    go_ret
    rw [HT.out.1, HT.out.2.1]
    exact ⟨rfl, ⟨_, _, _, _, HX.out.1⟩, HX.out.2⟩
  obtain rfl : fl = false := by cases fl with
    | true => exact absurd (.inl rfl) hbad
    | false => rfl
  rcases hr : rdE (l.drop at_) with _ | ⟨v, k⟩
  · exact absurd (.inr hr) hbad
  have hb := rdE_bound hr
  rw [List.length_drop] at hb
  obtain ⟨b1, b2, b3⟩ := hb
  have HU : Hid (uvS l ⟨at_, false⟩ = (v, ⟨at_ + k, false⟩)) := by unfold uvS; rw [hr]; rfl
  by_cases hok : v ≤ m ∧ v ≤ l.length - (at_ + k)
  · have HT : Hid (txS m l ⟨at_, false⟩ = ((l.drop (at_ + k)).take v, ⟨at_ + k + v, false⟩)) := by unfold txS; rw [hr]; exact if_pos hok
    obtain ⟨o1, o2⟩ := hok
    have o3 : (v : Int) ≤ m := by omega
    have o4 : (v : Int) ≤ (l.length : Int) - (at_ + k : Nat) := by omega
    clear hbad hr
    go_enter Tryz.func71, Tryz.ntmps71
    go_wp2_with (first
      | (go_at_call 84; refine (octPlace p b cap er ea l _ _ H.out).mono ?_; rintro e w1 ⟨rfl, rfl⟩)
      | (go_at_call 85; refine (octUvX p b cap er ea l _ _ H.out hmx).mono ?_; rintro e w1 ⟨he, h1, h2⟩; rw [HU.out] at he h1; subst he; obtain ⟨b2', cap2, er2, ea2, hx⟩ := h1; have hc2 := hx.box.cell; have hl2 := hx.box.lt; simp only at hc2; have HX := Lib.hid (And.intro hx h2); clear hx h2)
      | (go_at_call 69; refine (octRest p b2' cap2 er2 ea2 l _ _ HX.out.1 hmx).mono ?_; rintro e w2 ⟨rfl, nd, rfl⟩)
      | (go_at_call 47; refine (octTake p b2' cap2 v er2 ea2 l (at_ + k) _ (HX.out.1.drewN _) (by omega) hmx).mono ?_; rintro e w3 ⟨rfl, h3, h4⟩; have hstr := fun W hW => run_str W p (tailA b2' cap2 (at_ + k)) v (cap2 - (at_ + k)) ((l.drop (at_ + k)).take v) (by simp; omega) hW; have hst2 := hstr w3 (((h3.rd).tail_ (at_ + k) h3.cap_).take_ v); clear hstr; have HY := Lib.hid (And.intro h3 h4); clear h3 h4))
    go_ret
    rw [HT.out]
    exact ⟨rfl, ⟨_, _, _, _, HY.out.1⟩, (HX.out.2.drewN nd).trans HY.out.2⟩
  have HT : Hid (txS m l ⟨at_, false⟩ = ([], ⟨l.length, true⟩)) := by unfold txS; rw [hr]; exact if_neg hok
  have HN : Hid (∀ x : Int, (14 : Int) ≠ 0 ∧ (10 : Int) ≠ 0) := fun _ => ⟨by decide, by decide⟩
  clear hbad hr
  by_cases o1 : v ≤ m
  · have o3 : (v : Int) ≤ m := by omega
    have o4 : (l.length : Int) - (at_ + k : Nat) < (v : Int) := by omega
    clear hok
    go_enter Tryz.func71, Tryz.ntmps71
    go_wp2_with (first
      | (go_at_call 84; refine (octPlace p b cap er ea l _ _ H.out).mono ?_; rintro e w1 ⟨rfl, rfl⟩)
      | (go_at_call 85; refine (octUvX p b cap er ea l _ _ H.out hmx).mono ?_; rintro e w1 ⟨he, h1, h2⟩; rw [HU.out] at he h1; subst he; obtain ⟨b2', cap2, er2, ea2, hx⟩ := h1; have hc2 := hx.box.cell; have hl2 := hx.box.lt; simp only at hc2; have HX := Lib.hid (And.intro hx h2); clear hx h2)
      | (go_at_call 69; refine (octRest p b2' cap2 er2 ea2 l _ _ HX.out.1 hmx).mono ?_; rintro e w2 ⟨rfl, nd, rfl⟩)
      | (go_at_call 83; refine (octFailAt1 p b2' cap2 er2 ea2 _ _ l (at_ + k) _ (HX.out.1.drewN _) (HN.out 0).2).mono ?_; rintro e w3 ⟨rfl, h3, h4⟩; have HY := Lib.hid (And.intro h3 h4); clear h3 h4))
    go_ret
    rw [HT.out]
    exact ⟨rfl, ⟨_, _, _, _, HY.out.1⟩, (HX.out.2.drewN nd).trans HY.out.2⟩
  have o3 : (m : Int) < v := by omega
  clear hok
  go_enter Tryz.func71, Tryz.ntmps71
  go_wp2_with (first
    | (go_at_call 84; refine (octPlace p b cap er ea l _ _ H.out).mono ?_; rintro e w1 ⟨rfl, rfl⟩)
    | (go_at_call 85; refine (octUvX p b cap er ea l _ _ H.out hmx).mono ?_; rintro e w1 ⟨he, h1, h2⟩; rw [HU.out] at he h1; subst he; obtain ⟨b2', cap2, er2, ea2, hx⟩ := h1; have hc2 := hx.box.cell; have hl2 := hx.box.lt; simp only at hc2; have HX := Lib.hid (And.intro hx h2); clear hx h2)
    | (go_at_call 83; refine (octFailAt1 p b2' cap2 er2 ea2 _ _ l (at_ + k) _ HX.out.1 (HN.out 0).1).mono ?_; rintro e w3 ⟨rfl, h3, h4⟩; have HY := Lib.hid (And.intro h3 h4); clear h3 h4))
  go_ret
  rw [HT.out]
  exact ⟨rfl, ⟨_, _, _, _, HY.out.1⟩, HX.out.2.trans HY.out.2⟩
end Go.Proofs.YtmhlgbpgdhhfnaaGreat
namespace Go.Proofs.YtmhlgbpgdhhfnaaGreat
open Go.RowKit Go.Maps

set_option maxRecDepth 100000 in
set_option maxHeartbeats 4000000 in
theorem refReadU (A : Option Addr) (n c : Nat) (l : List UInt8) (w : World) (hA : Rd w w.heap.size A (bv l)) (hn : l.length = n) (hmx : n ≤ 140737488355328) :
    Calls Tryz.prog 53 #[.slice A n c] w fun e w' =>
      UvAns l e ∧ w = w' := by
  have Hn := Lib.hid hn
  clear hn
  go_enter Tryz.func53, Tryz.ntmps53
  go_wp2
  go_loop [5, 6, 7] (fun v un i => ∃ (k acc U : Nat), k ≤ n ∧ k < 10 ∧ i = .int .i64 k ∧ v = .int .u64 acc ∧ un = .int .u64 U ∧ U = 2 ^ (7 * k) ∧ acc < 2 ^ (7 * k) ∧ rdE l = (rdU k (l.drop k)).map (fun x => (acc + 2 ^ (7 * k) * x.1, k + x.2)) ∧ errU 0 l = errU k (l.drop k))
    (fun _ _ i => n - (intOf i).toNat)
  case atStart => exact ⟨0, 0, 1, by omega, by omega, rfl, rfl, rfl, rfl, by omega, by simp [rdE], rfl⟩
  case round =>
    obtain ⟨k, acc, U, hk, hk10, rfl, rfl, rfl, hU, ha, hr, he⟩ := hrel
    have HU := Lib.hid hU
    have Ha := Lib.hid ha
    have Hr := Lib.hid hr
    have He := Lib.hid he
    clear ha hr he hU
    by_cases hlt : k < n
    · have hkl : k < l.length := by rw [Hn.out]; exact hlt
      obtain ⟨ad, rfl, _, hc⟩ := hA k (.int .u8 l[k].toNat) (by simp [bv, hkl])
      generalize hcc : l[k].toNat = cc at hc
      have Hcc := Lib.hid hcc
      clear hcc
      have hc256 : cc < 256 := by rw [← Hcc.out]; exact l[k].toNat_lt
      by_cases h1 : k = 9 ∧ cc ≠ 1
      · obtain ⟨q1, q2⟩ := rdU_err1 hkl (by rw [Hcc.out]; exact h1)
        have HA : Hid (UvAns l (.returned (.tuple #[.int .u64 0, .int .i64 0, .int .i64 11]))) :=
          .inr ⟨by rw [Hr.out, q1]; rfl, .inr (by rw [He.out, q2]), by rw [He.out, q2]⟩
        have b1 : ((k : Int) == 9) = true := by simp; omega
        have b0 : (0 : Int) < k := by omega
        by_cases hz : cc = 0
        · have b2 : ((cc : Int) == 0) = true := by simp; omega
          have b3 : ¬ (1 : Int) < cc := by omega
          clear h1 q1 q2 hz
          go_wp2
          go_ret3
          exact ⟨HA.out, rfl⟩
        have b3 : (1 : Int) < cc := by omega
        clear h1 q1 q2 hz
        go_wp2
        go_ret3
        exact ⟨HA.out, rfl⟩
      by_cases h2 : 0 < k ∧ cc = 0
      · obtain ⟨q1, q2⟩ := rdU_err2 hkl (by rw [Hcc.out]; exact h1) (by rw [Hcc.out]; exact h2)
        have HA : Hid (UvAns l (.returned (.tuple #[.int .u64 0, .int .i64 0, .int .i64 11]))) :=
          .inr ⟨by rw [Hr.out, q1]; rfl, .inr (by rw [He.out, q2]), by rw [He.out, q2]⟩
        have b1 : ((k : Int) == 9) = false := by simp; omega
        have b2 : ((cc : Int) == 0) = true := by simp; omega
        have b3 : (0 : Int) < k := by omega
        clear h1 h2 q1 q2
        go_wp2
        go_ret3
        exact ⟨HA.out, rfl⟩
      have b2 : Hid (k = 9 → cc = 1) := fun h => Classical.byContradiction fun hn => h1 ⟨h, hn⟩
      obtain ⟨_, hlt64⟩ := shl_or acc cc k hc256 hk10 Ha.out b2.out
      rw [← HU.out] at hlt64
      have hcm : cc % 128 < 128 := Nat.mod_lt _ (by omega)
      generalize hP : U * (cc % 128) = P at hlt64
      have HP := Lib.hid (show ((cc : Int) % 128) * (U : Int) = (P : Int) by rw [← hP, Int.natCast_mul, Int.mul_comm]; rfl)
      have HP2 := Lib.hid hP
      clear hP
      have hmul : ∀ x : Int, x = ((cc : Int) % 128) * (U : Int) → IntKind.u64.wrap x = P := fun x hx => by rw [hx, HP.out, IntKind.wrap_u64]; omega
      have hmul1 := hmul _ rfl
      have Hmul := Lib.hid hmul
      clear hmul
      by_cases h3 : cc < 128
      · obtain ⟨q1, q2⟩ := rdU_end hkl (by rw [Hcc.out]; exact h1) (by rw [Hcc.out]; exact h2) (by rw [Hcc.out]; exact h3)
        rw [Hcc.out] at q1
        have HA : Hid (UvAns l (.returned (.tuple #[.int .u64 ((acc : Int) + P), .int .i64 ((k : Int) + 1), .int .i64 0]))) :=
          .inl ⟨acc + P, k + 1, by rw [Hr.out, q1, ← HP2.out, HU.out, Nat.mod_eq_of_lt h3]; rfl, hlt64, by omega, by omega, by rw [He.out, q2], rfl⟩
        clear q1 q2
        by_cases hk9 : k = 9
        · have e1 := b2.out hk9
          have b1 : ((k : Int) == 9) = true := by simp; omega
          have b4 : ¬ (1 : Int) < cc := by omega
          have b3 : (0 : Int) < k := by omega
          have b5 : ((cc : Int) == 0) = false := by simp; omega
          clear hk9 e1 h1 h2
          go_wp2
          go_ret3
          exact ⟨HA.out, rfl⟩
        have b1 : ((k : Int) == 9) = false := by simp; omega
        by_cases hk0 : 0 < k
        · have b3 : (0 : Int) < k := by omega
          have b5 : ((cc : Int) == 0) = false := by simp; omega
          clear h1 h2 hk9 hk0
          go_wp2
          go_ret3
          exact ⟨HA.out, rfl⟩
        have b3 : ¬ (0 : Int) < k := by omega
        clear h1 h2 hk9 hk0
        go_wp2
        go_ret3
        exact ⟨HA.out, rfl⟩
      have hk9 : k ≠ 9 := fun h => by have := b2.out h; omega
      obtain ⟨q1, q2⟩ := rdU_next hkl (by rw [Hcc.out]; exact h1) (by rw [Hcc.out]; exact h2) (by rw [Hcc.out]; exact h3)
      rw [Hcc.out] at q1
      have b1 : ((k : Int) == 9) = false := by simp; omega
      have b3 : ((cc : Int) == 0) = false := by simp; omega
      have Q := Lib.hid (And.intro q1 q2)
      have hU2 : U * 128 < 18446744073709551616 := by
        rw [HU.out, show 2 ^ (7 * k) * 128 = 2 ^ (7 * k + 7) by rw [Nat.pow_add]]
        exact Nat.lt_of_le_of_lt (Nat.pow_le_pow_right (by omega) (show 7 * k + 7 ≤ 63 by omega)) (by decide)
      have HT : Hid (acc + P < 2 ^ (7 * (k + 1)) ∧ U * 128 = 2 ^ (7 * (k + 1))) := by
        have h5 := Ha.out
        have h6 : (2 : Nat) ^ (7 * (k + 1)) = 2 ^ (7 * k) * 128 := by rw [show 7 * (k + 1) = 7 * k + 7 by omega, Nat.pow_add]
        have h7 : U * (cc % 128) + U ≤ U * 128 := by
          have h3 : U * (cc % 128) + U = U * (cc % 128 + 1) := by rw [Nat.mul_add, Nat.mul_one]
          rw [h3]; exact Nat.mul_le_mul_left _ (by omega)
        rw [HP2.out] at h7
        rw [← HU.out] at h5 h6
        show _ ∧ _
        omega
      clear h1 h2 q1 q2 b2
      by_cases hk0 : 0 < k
      all_goals
        go_wp2
        go_round
        case rel =>
          refine ⟨k + 1, acc + P, U * 128, by omega, by omega, by go_num, by go_num, by go_num, HT.out.2, HT.out.1, ?_, by rw [He.out, Q.out.2]⟩
          rw [Hr.out, Q.out.1, Option.map_map, ← HP2.out]
          congr 1
          funext x
          have h6 : (2 : Nat) ^ (7 * (k + 1)) = 2 ^ (7 * k) * 128 := by rw [show 7 * (k + 1) = 7 * k + 7 by omega, Nat.pow_add]
          have h7 : 2 ^ (7 * k) * (cc % 128 + 128 * x.1) = 2 ^ (7 * k) * (cc % 128) + 2 ^ (7 * (k + 1)) * x.1 := by rw [h6, Nat.mul_add, Nat.mul_assoc]
          simp only [Function.comp, Prod.mk.injEq]
          exact ⟨by rw [h7, HU.out, Nat.add_assoc], by omega⟩
        case measure => simp [intOf]; omega
    obtain ⟨q1, q2⟩ := rdU_nil (k := k) (l := l) (by rw [Hn.out]; omega)
    have HA : Hid (UvAns l (.returned (.tuple #[.int .u64 0, .int .i64 0, .int .i64 10]))) :=
      .inr ⟨by rw [Hr.out, q1]; rfl, .inl (by rw [He.out, q2]), by rw [He.out, q2]⟩
    clear q1 q2
    go_wp2
    go_ret3
    exact ⟨HA.out, rfl⟩
end Go.Proofs.YtmhlgbpgdhhfnaaGreat
namespace Go.Proofs.YtmhlgbpgdhhfnaaGreat
open Go.RowKit Go.Maps

theorem refReadU_some (A : Option Addr) (n c v k : Nat) (l : List UInt8) (w : World) (hr : rdE l = some (v, k)) (hA : Rd w w.heap.size A (bv l)) (hn : l.length = n) (hmx : n ≤ 140737488355328) :
    Calls Tryz.prog 53 #[.slice A n c] w fun e w' => e = .returned (.tuple #[.int .u64 v, .int .i64 k, .int .i64 0]) ∧ w = w' :=
  (refReadU A n c l w hA hn hmx).mono fun e w' ⟨h, hw⟩ => ⟨(by
    rcases h with ⟨v', k', h1, _, _, _, _, h2⟩ | ⟨h1, _⟩
    · rw [hr] at h1; cases h1; exact h2
    rw [hr] at h1; cases h1), hw⟩
theorem refReadU_none (A : Option Addr) (n c : Nat) (l : List UInt8) (w : World) (x : Int) (hr : rdE l = none) (hx : errU 0 l = x) (hA : Rd w w.heap.size A (bv l)) (hn : l.length = n) (hmx : n ≤ 140737488355328) :
    Calls Tryz.prog 53 #[.slice A n c] w fun e w' => e = .returned (.tuple #[.int .u64 0, .int .i64 0, .int .i64 x]) ∧ w = w' :=
  (refReadU A n c l w hA hn hmx).mono fun e w' ⟨h, hw⟩ => ⟨(by
    rcases h with ⟨v', k', h1, _⟩ | ⟨_, _, h2⟩
    · rw [hr] at h1; cases h1
    rw [hx] at h2; exact h2), hw⟩

/-- A reader of the document's side at block p. -/
structure RRx (W : World) (p : Nat) (b : Option Addr) (cap : Nat) (er ea : Int) (l : List UInt8) (s : RSt) : Prop where
  box : Box W p 91 #[.slice b l.length cap, .int .i64 s.at_, .int .i64 er, .int .i64 ea]
  rd : Rd W p b (bv l)
  cap_ : l.length ≤ cap
  le : s.at_ ≤ l.length
  fl : s.fl = true ↔ er ≠ 0
def RRd (W : World) (p : Nat) (l : List UInt8) (s : RSt) : Prop := ∃ b cap er ea, RRx W p b cap er ea l s
section
variable {W W' : World} {p cap : Nat} {b : Option Addr} {er ea : Int} {l : List UInt8} {s : RSt}
theorem RRx.chg {S : Nat → Prop} (h : RRx W p b cap er ea l s) (hc : Chg S W W') (hS : ∀ k, S k → p < k) : RRx W' p b cap er ea l s :=
  ⟨h.box.chg hc (fun e => by have := hS _ e; omega), h.rd.keep fun q hq => by
    have hk := hc.block q.block (by have := h.box.lt; omega) (fun e => by have := hS _ e; omega)
    simp [World.cell?, hk], h.cap_, h.le, h.fl⟩
theorem RRd.chg {S : Nat → Prop} (h : RRd W p l s) (hc : Chg S W W') (hS : ∀ k, S k → p < k) : RRd W' p l s :=
  let ⟨b, cap, er, ea, h⟩ := h; ⟨b, cap, er, ea, h.chg hc hS⟩
theorem RRd.lt (h : RRd W p l s) : p < W.heap.size := let ⟨_, _, _, _, h⟩ := h; h.box.lt
theorem RRd.below (h : RRd W p l s) (hb : Below W.heap.size W W') : RRd W' p l s := h.chg (Chg.of_below hb fun _ => False) (fun _ e => e.elim)
theorem RRd.le (h : RRd W p l s) : s.at_ ≤ l.length := let ⟨_, _, _, _, h⟩ := h; h.le
theorem RRx.drewN (h : RRx W p b cap er ea l s) (n : Nat) : RRx (W.drewN n) p b cap er ea l s := ⟨h.box, h.rd, h.cap_, h.le, h.fl⟩
theorem RRx.set_at {at_ k : Nat} (h : RRx W p b cap 0 ea l ⟨at_, false⟩) (hk : k ≤ l.length) : RRx (W.setCell ⟨p, 1, none⟩ (.int .i64 k)) p b cap 0 ea l ⟨k, false⟩ := by
  refine ⟨?_, h.rd.keep fun q hq => ?_, h.cap_, hk, by simp⟩
  · simpa using h.box.set_ 1 (.int .i64 k)
  have := Below.heap_setCell W ⟨p, 1, none⟩ (.int .i64 k) q.block (by show q.block ≠ p; omega)
  simp [World.cell?, this]
end
def SAft (p : Nat) (l : List UInt8) (s : RSt) (w w' : World) : Prop := RRd w' p l s ∧ Chg (fun k => k = p) w w'
theorem SAft.same {p : Nat} {b : Option Addr} {cap : Nat} {er ea : Int} {l : List UInt8} {s : RSt} {w : World} (h : RRx w p b cap er ea l s) : SAft p l s w w := ⟨⟨_, _, _, _, h⟩, Chg.refl _ _⟩
theorem Chg.set3 (w : World) {p : Nat} (u1 u2 u3 : Value) : Chg (fun k => k = p) w (((w.setCell ⟨p, 2, none⟩ u1).setCell ⟨p, 3, none⟩ u2).setCell ⟨p, 1, none⟩ u3) :=
  (((Chg.refl (fun k => k = p) w).set1 rfl _ _).set1 rfl _ _).set1 rfl _ _

set_option maxRecDepth 100000 in
set_option maxHeartbeats 2000000 in
theorem refNewR (A : Option Addr) (n c : Nat) (l : List UInt8) (w : World) (hA : Rd w w.heap.size A (bv l)) (hn : l.length = n) (hmx : n ≤ 140737488355328) :
    Calls Tryz.prog 36 #[.slice A n c] w fun e w' => ∃ p, e = .returned (.pointer (some ⟨p, 0, none⟩)) ∧ RRd w' p l ⟨0, false⟩ ∧ w.heap.size ≤ p ∧ Below w.heap.size w w' := by
  obtain ⟨i0, hi0, hz0, hs0, hy0⟩ := info_parts info_u8
  have hb0 : Below w.heap.size w (w.alloc (.cells #[] 5)) := (Below.refl _ _).alloc (Nat.le_refl _) _
  have HA := Lib.hid (And.intro (hA.below hb0) hb0)
  have Hn := Lib.hid hn
  clear hA hn hb0
  go_enter Tryz.func36, Tryz.ntmps36
  go_wp2_with (at_builtin
               refine wpList_app _ rfl (.tmp 3) (.tmp 4) _ rfl w.heap.size 5 i0 _ 1 1 Tryz.underlying22 hi0 hz0 hs0 hy0 rfl (by omega) (.slice (some ⟨w.heap.size, 0, none⟩) 0 0) 0 [] rfl (own_empty _ _ _ _ (Nat.le_refl _)) _ A n c (bv l) rfl (by rw [bv_len, Hn.out, Nat.mul_one]) HA.out.1 (one_bv _) (by unfold maxLen; omega) (by omega) (by simp) ?_
               intro v1 w1 hown hg _
               rw [Nat.zero_add, List.nil_append] at hown
               obtain ⟨b1, cap1, rfl⟩ := ownsRow_slice hown
               have H1 := Lib.hid (And.intro hown hg)
               clear hown hg)
  go_ret
  have hb1 : Below w.heap.size w w1 := HA.out.2.grown H1.out.2 (by simp) (fun k hk => by simp [Value.ownBlock] at hk; omega)
  refine ⟨w1.heap.size, rfl, ⟨b1, cap1, 0, 0, ?_, ?_, ?_, Nat.zero_le _, by simp⟩, hb1.size, hb1.alloc hb1.size _⟩
  · rw [Hn.out]; exact Box.new w1 _ _
  · have h1 := ownsRow_rd H1.out.1
    exact h1.keep fun q hq => World.cell?_alloc_lt _ _ _ hq
  rw [Hn.out]
  rcases H1.out.1.2 with ⟨hv, h0⟩ | ⟨g, c', cur, hv, _, _, hnc, _⟩
  · omega
  injection hv with _ _ e2
  omega

set_option maxRecDepth 100000 in
theorem refFail0 (p : Nat) (b : Option Addr) (cap : Nat) (ea : Int) (l : List UInt8) (at_ : Nat) (w : World) (h : RRx w p b cap 0 ea l ⟨at_, false⟩) :
    Calls Tryz.prog 54 #[.pointer (some ⟨p, 0, none⟩), .int .i64 0] w fun e w' => e = .returned (.tuple #[]) ∧ w = w' := by
  have hc := h.box.cell
  have hl := h.box.lt
  simp only at hc
  clear h
  go_enter Tryz.func54, Tryz.ntmps54
  go_wp2
  first
    | (go_end0; exact ⟨rfl, rfl⟩)
    | exact bodyPost_ret (results_none rfl _ _ _) rfl ⟨rfl, rfl⟩
set_option maxRecDepth 100000 in
set_option maxHeartbeats 1000000 in
theorem refFail1 (p : Nat) (b : Option Addr) (cap : Nat) (ea y : Int) (l : List UInt8) (at_ : Nat) (w : World) (h : RRx w p b cap 0 ea l ⟨at_, false⟩) (hy : y ≠ 0) :
    Calls Tryz.prog 54 #[.pointer (some ⟨p, 0, none⟩), .int .i64 y] w fun e w' => e = .returned (.tuple #[]) ∧ RRx w' p b cap y at_ l ⟨l.length, true⟩ ∧ Chg (fun k => k = p) w w' := by
  have hc := h.box.cell
  have hf := h.box.free
  have hl := h.box.lt
  have hy1 : (y != 0) = true := by simpa using hy
  have H := Lib.hid (And.intro h hy)
  simp only at hc
  clear h hy
  go_enter Tryz.func54, Tryz.ntmps54
  go_wp2
  go_end0
  refine ⟨rfl, ⟨?_, H.out.1.rd.keep fun q hq => ?_, H.out.1.cap_, Nat.le_refl _, ?_⟩, ?_⟩
  · have h2 := (((H.out.1.box.set_ 2 (.int .i64 y)).set_ 3 (.int .i64 at_)).set_ 1 (.int .i64 l.length))
    simpa using h2
  · have hb : ∀ W i u, (World.setCell W ⟨p, i, none⟩ u).heap[q.block]? = W.heap[q.block]? := fun W i u => Below.heap_setCell W ⟨p, i, none⟩ u q.block (by show q.block ≠ p; omega)
    simp [World.cell?, hb]
  · have := H.out.2
    simp [this]
  exact Chg.set3 _ _ _ _

set_option maxRecDepth 100000 in
set_option maxHeartbeats 2000000 in
theorem refUvX (p : Nat) (b : Option Addr) (cap : Nat) (er ea : Int) (l : List UInt8) (s : RSt) (w : World) (h : RRx w p b cap er ea l s) (hmx : l.length ≤ 140737488355328) :
    Calls Tryz.prog 38 #[.pointer (some ⟨p, 0, none⟩)] w fun e w' => e = .returned (.int .u64 (uvS l s).1) ∧ SAft p l (uvS l s).2 w w' := by
  have hc := h.box.cell
  have hf := h.box.free
  have hl := h.box.lt
  have hle := h.le
  have hcp := h.cap_
  have hfl := h.fl
  obtain ⟨at_, fl⟩ := s
  simp only at hc hle hfl
  cases fl with
  | true =>
    have hne : (er != 0) = true := by simpa using hfl
    have H := Lib.hid h
    clear h hfl
    go_enter Tryz.func38, Tryz.ntmps38
    go_wp2
    go_ret
    exact ⟨rfl, SAft.same H.out⟩
  | false =>
    obtain rfl : er = 0 := by
      rcases Classical.em (er = 0) with e | e
      · exact e
      exact absurd (hfl.2 e) (by simp)
    have H := Lib.hid h
    clear h hfl
    have hsl := fun W => run_tail W 22 Tryz.underlying22 sizeU8 b l.length cap at_ hle
    have hrd : ∀ n, Rd (w.drewN n) (w.drewN n).heap.size (tailA b cap at_) (bv (l.drop at_)) := fun n => (H.out.rd.tail_ at_ hcp).mono (Nat.le_of_lt hl)
    have Hrd := Lib.hid hrd
    have hlen : (l.drop at_).length = l.length - at_ := by simp
    have Hlen := Lib.hid hlen
    clear hrd hlen
    cases hr : rdE (l.drop at_) with
    | some x =>
      obtain ⟨v, k⟩ := x
      have hb := rdE_bound hr
      rw [Hlen.out] at hb
      obtain ⟨b1, b2, b3⟩ := hb
      have HR := Lib.hid hr
      have HU : Hid (uvS l ⟨at_, false⟩ = (v, ⟨at_ + k, false⟩)) := by unfold uvS; rw [hr]; rfl
      clear hr
      go_enter Tryz.func38, Tryz.ntmps38
      go_wp2
      go_quiet ((go_at_call 53; exact Calls.quiet_of (quiet_two (refReadU_some (tailA b cap at_) (l.length - at_) (cap - at_) v k _ _ HR.out (Hrd.out _) Hlen.out (by omega)))))
      go_wp2_with (go_at_call 54; refine (refFail0 p b cap ea l at_ _ (H.out.drewN _)).mono ?_; rintro e w1 ⟨rfl, rfl⟩)
      go_ret
      rw [HU.out]
      have h2 := (H.out.drewN nq).set_at (k := at_ + k) (by omega)
      exact ⟨rfl, ⟨_, _, _, _, by simpa using h2⟩, ((Chg.refl (fun j => j = p) w).drewN nq).set1 rfl _ _⟩
    | none =>
      have HR := Lib.hid hr
      have HU : Hid (uvS l ⟨at_, false⟩ = (0, ⟨l.length, true⟩)) := by unfold uvS; rw [hr]; rfl
      have he := errU_ne _ _ hr
      generalize hx : errU 0 (l.drop at_) = x at he
      have Hx := Lib.hid hx
      have Hne : Hid (x ≠ 0) := by show x ≠ 0; omega
      have hx0 : (x == 0) = false := by simpa using Hne.out
      clear hr hx he
      go_enter Tryz.func38, Tryz.ntmps38
      go_wp2
      go_quiet ((go_at_call 53; exact Calls.quiet_of (quiet_two (refReadU_none (tailA b cap at_) (l.length - at_) (cap - at_) _ _ x HR.out Hx.out (Hrd.out _) Hlen.out (by omega)))))
      go_wp2_with (go_at_call 54; refine (refFail1 p b cap ea x l at_ _ (H.out.drewN _) Hne.out).mono ?_; rintro e w1 ⟨rfl, h2, h3⟩; have H2 := Lib.hid (And.intro h2 h3); clear h2 h3)
      go_ret
      rw [HU.out]
      exact ⟨rfl, ⟨_, _, _, _, H2.out.1⟩, ((Chg.refl (fun j => j = p) w).drewN nq).trans H2.out.2⟩
theorem refUv (p : Nat) (l : List UInt8) (s : RSt) (w : World) (h : RRd w p l s) (hmx : l.length ≤ 140737488355328) :
    Calls Tryz.prog 38 #[.pointer (some ⟨p, 0, none⟩)] w fun e w' => e = .returned (.int .u64 (uvS l s).1) ∧ SAft p l (uvS l s).2 w w' := by
  obtain ⟨b, cap, er, ea, h⟩ := h
  exact refUvX p b cap er ea l s w h hmx
end Go.Proofs.YtmhlgbpgdhhfnaaGreat
namespace Go.Proofs.YtmhlgbpgdhhfnaaGreat
open Go.RowKit Go.Maps

theorem run_part2 (W : World) (b : Option Addr) (len cap k m : Nat) (lo h : Int) (hlo : lo = k) (hh : h = k + m) (hm : k + m ≤ cap) :
    (Instr.slice 22 (.slice b len cap) (some (.int .i64 lo)) (some (.int .i64 h)) none).run Tryz.prog W = .ok (.slice (tailA b cap k) m (cap - k)) W := by
  subst hlo
  exact run_part W 22 Tryz.underlying22 sizeU8 b len cap k m h hh hm

set_option maxRecDepth 100000 in
set_option maxHeartbeats 4000000 in
theorem refTx (p m : Nat) (l : List UInt8) (s : RSt) (w : World) (h : RRd w p l s) (hmx : l.length ≤ 140737488355328) (hm : m ≤ 1000000) :
    Calls Tryz.prog 39 #[.pointer (some ⟨p, 0, none⟩), .int .i64 m] w fun e w' => e = .returned (strV (txS m l s).1) ∧ SAft p l (txS m l s).2 w w' := by
  obtain ⟨b, cap, er, ea, h⟩ := h
  have hc := h.box.cell
  have hf := h.box.free
  have hl := h.box.lt
  have hle := h.le
  have hcp := h.cap_
  have hfl := h.fl
  obtain ⟨at_, fl⟩ := s
  simp only at hc hle hfl
  cases fl with
  | true =>
    have hne : (er != 0) = true := by simpa using hfl
    have H := Lib.hid h
    clear h hfl
    go_enter Tryz.func39, Tryz.ntmps39
    go_wp2
    go_ret
    exact ⟨rfl, SAft.same H.out⟩
  | false =>
    obtain rfl : er = 0 := by
      rcases Classical.em (er = 0) with e | e
      · exact e
      exact absurd (hfl.2 e) (by simp)
    have H := Lib.hid h
    clear h hfl
    have hsl := fun W => run_tail W 22 Tryz.underlying22 sizeU8 b l.length cap at_ hle
    have hrd : ∀ n, Rd (w.drewN n) (w.drewN n).heap.size (tailA b cap at_) (bv (l.drop at_)) := fun n => (H.out.rd.tail_ at_ hcp).mono (Nat.le_of_lt hl)
    have Hrd := Lib.hid hrd
    have hlen : (l.drop at_).length = l.length - at_ := by simp
    have Hlen := Lib.hid hlen
    clear hrd hlen
    cases hr : rdE (l.drop at_) with
    | none =>
      have HR := Lib.hid hr
      have HU : Hid (txS m l ⟨at_, false⟩ = ([], ⟨l.length, true⟩)) := by unfold txS; rw [hr]; rfl
      have he := errU_ne _ _ hr
      generalize hx : errU 0 (l.drop at_) = x at he
      have Hx := Lib.hid hx
      have Hne : Hid (x ≠ 0) := by show x ≠ 0; omega
      have hx0 : (x == 0) = false := by simpa using Hne.out
      have hx1 : (x != 0) = true := by simpa using Hne.out
      clear hr hx he
      go_enter Tryz.func39, Tryz.ntmps39
      go_wp2
      go_quiet ((go_at_call 53; exact Calls.quiet_of (quiet_two (refReadU_none (tailA b cap at_) (l.length - at_) (cap - at_) _ _ x HR.out Hx.out (Hrd.out _) Hlen.out (by omega)))))
      go_wp2
      go_quiet (fail)
      go_wp2_with (go_at_call 54; refine (refFail1 p b cap ea x l at_ _ (by first | exact (H.out.drewN _).drewN _ | exact H.out.drewN _) Hne.out).mono ?_; rintro e w1 ⟨rfl, h2, h3⟩; have H2 := Lib.hid (And.intro h2 h3); clear h2 h3)
      go_ret
      rw [HU.out]
      exact ⟨rfl, ⟨_, _, _, _, H2.out.1⟩, ((by first | exact ((Chg.refl (fun j => j = p) w).drewN _).drewN _ | exact (Chg.refl (fun j => j = p) w).drewN _ : Chg (fun j => j = p) w _)).trans H2.out.2⟩
    | some x =>
      obtain ⟨v, k⟩ := x
      have hb := rdE_bound hr
      rw [Hlen.out] at hb
      obtain ⟨b1, b2, b3⟩ := hb
      have HR := Lib.hid hr
      by_cases o1 : v ≤ m
      · have o3 : (v : Int) ≤ m := by omega
        have od1 : decide (m < v) = false := by simp; omega
        have hw1 : IntKind.i64.wrap ((l.length : Int) - at_) = (l.length : Int) - at_ := Go.IntWalk.i64_in _ (by omega)
        have hw2 : IntKind.i64.wrap ((l.length : Int) - at_ - k) = (l.length : Int) - at_ - k := Go.IntWalk.i64_in _ (by omega)
        have hw3 : IntKind.u64.wrap ((l.length : Int) - at_ - k) = (l.length : Int) - at_ - k := by rw [IntKind.wrap_u64]; omega
        have Hw := Lib.hid (And.intro hw1 (And.intro hw2 hw3))
        clear hw1 hw2 hw3
        by_cases o2 : v ≤ l.length - (at_ + k)
        · have HU : Hid (txS m l ⟨at_, false⟩ = ((l.drop (at_ + k)).take v, ⟨at_ + k + v, false⟩)) := by have hok : v ≤ m ∧ v ≤ l.length - (at_ + k) := ⟨o1, o2⟩; unfold txS; rw [hr]; exact if_pos hok
          have o4 : (v : Int) ≤ (l.length : Int) - at_ - k := by omega
          have o5 : ¬ (l.length : Int) - at_ - k < (v : Int) := by omega
          have Ho5 := Lib.hid (show decide ((l.length : Int) - at_ - k < (v : Int)) = false by simp; omega)
          clear hr o5
          go_enter Tryz.func39, Tryz.ntmps39
          go_wp2
          go_quiet ((go_at_call 53; exact Calls.quiet_of (quiet_two (refReadU_some (tailA b cap at_) (l.length - at_) (cap - at_) v k _ _ HR.out (Hrd.out _) Hlen.out (by omega)))))
          go_wp2
          obtain ⟨nq1, hnq⟩ : ∃ m, m = nq := ⟨nq, rfl⟩
          subst hnq
          obtain ⟨hw1, hw2, hw3⟩ := Hw.out
          have o5 := Ho5.out
          go_quiet (fail)
          clear hw1 hw2 hw3 o5
          go_wp2
          have h2 := (H.out.drewN (nq1 + nq)).set_at (k := at_ + k + v) (by omega)
          have hc2 := h2.box.cell
          simp only [Int.natCast_add] at hc2
          have H2 := Lib.hid h2
          have hsl2 := fun W => run_part2 W b l.length cap (at_ + k) v ((at_ : Int) + k) ((at_ : Int) + k + v) (by omega) (by omega) (by omega)
          have hst := fun n => run_str ((((w.drewN (nq1 + nq)).setCell ⟨p, 1, none⟩ (.int .i64 ((at_ : Int) + k + v))).drewN n)) p (tailA b cap (at_ + k)) v (cap - (at_ + k)) ((l.drop (at_ + k)).take v) (by simp; omega)
            (by have := (((H2.out.drewN n).rd).tail_ (at_ + k) hcp).take_ v; simpa using this)
          clear h2 hc hf
          go_quiet (fail)
          go_wp2
          go_ret
          rw [HU.out]
          refine ⟨rfl, ⟨_, _, _, _, by simpa using H2.out.drewN _⟩, ?_⟩
          exact (((Chg.refl (fun j => j = p) w).drewN _).set1 rfl _ _).drewN _
        have HU : Hid (txS m l ⟨at_, false⟩ = ([], ⟨l.length, true⟩)) := by have hok : ¬ (v ≤ m ∧ v ≤ l.length - (at_ + k)) := fun h => o2 h.2; unfold txS; rw [hr]; exact if_neg hok
        have HN : Hid ((10 : Int) ≠ 0) := by show (10 : Int) ≠ 0; decide
        have o4 : (l.length : Int) - at_ - k < (v : Int) := by omega
        clear hr
        go_enter Tryz.func39, Tryz.ntmps39
        go_wp2
        go_quiet ((go_at_call 53; exact Calls.quiet_of (quiet_two (refReadU_some (tailA b cap at_) (l.length - at_) (cap - at_) v k _ _ HR.out (Hrd.out _) Hlen.out (by omega)))))
        go_wp2
        obtain ⟨hw1, hw2, hw3⟩ := Hw.out
        have o5 : decide ((l.length : Int) - at_ - k < (v : Int)) = true := by simp; omega
        go_quiet (fail)
        clear hw1 hw2 hw3 o5
        go_wp2_with (go_at_call 54; refine (refFail1 p b cap ea _ l at_ _ (by first | exact (H.out.drewN _).drewN _ | exact H.out.drewN _) HN.out).mono ?_; rintro e w1 ⟨rfl, h2, h3⟩; have H2 := Lib.hid (And.intro h2 h3); clear h2 h3)
        go_ret
        rw [HU.out]
        exact ⟨rfl, ⟨_, _, _, _, H2.out.1⟩, ((by first | exact ((Chg.refl (fun j => j = p) w).drewN _).drewN _ | exact (Chg.refl (fun j => j = p) w).drewN _ : Chg (fun j => j = p) w _)).trans H2.out.2⟩
      have od1 : decide (m < v) = true := by simp; omega
      have HU : Hid (txS m l ⟨at_, false⟩ = ([], ⟨l.length, true⟩)) := by have hok : ¬ (v ≤ m ∧ v ≤ l.length - (at_ + k)) := fun h => o1 h.1; unfold txS; rw [hr]; exact if_neg hok
      have HN : Hid ((14 : Int) ≠ 0) := by show (14 : Int) ≠ 0; decide
      have o4 : (m : Int) < (v : Int) := by omega
      clear hr
      go_enter Tryz.func39, Tryz.ntmps39
      go_wp2
      go_quiet ((go_at_call 53; exact Calls.quiet_of (quiet_two (refReadU_some (tailA b cap at_) (l.length - at_) (cap - at_) v k _ _ HR.out (Hrd.out _) Hlen.out (by omega)))))
      go_wp2
      go_quiet (fail)
      go_wp2_with (go_at_call 54; refine (refFail1 p b cap ea _ l at_ _ (by first | exact (H.out.drewN _).drewN _ | exact H.out.drewN _) HN.out).mono ?_; rintro e w1 ⟨rfl, h2, h3⟩; have H2 := Lib.hid (And.intro h2 h3); clear h2 h3)
      go_ret
      rw [HU.out]
      exact ⟨rfl, ⟨_, _, _, _, H2.out.1⟩, ((by first | exact ((Chg.refl (fun j => j = p) w).drewN _).drewN _ | exact (Chg.refl (fun j => j = p) w).drewN _ : Chg (fun j => j = p) w _)).trans H2.out.2⟩
end Go.Proofs.YtmhlgbpgdhhfnaaGreat
namespace Go.Proofs.YtmhlgbpgdhhfnaaGreat
open Go.RowKit Go.Maps

/-! Reading what was written. No program in sight. -/
theorem rdU_uvarF : ∀ (f i n : Nat) (r : List UInt8), f + i = 10 → n * 2 ^ (7 * i) < 18446744073709551616 → (0 < i → 0 < n) → rdU i (uvarF f n ++ r) = some (n, (uvarF f n).length)
  | 0, i, n, r, hf, hn, hp => by
    have : i = 10 := by omega
    subst this
    have := hp (by omega)
    have : 1 * 2 ^ 70 ≤ n * 2 ^ (7 * 10) := Nat.mul_le_mul this (by omega)
    omega
  | f + 1, i, n, r, hf, hn, hp => by
    have h9 : i = 9 → n ≤ 1 := fun e => by subst e; have : n * 2 ^ (7 * 9) < 2 * 2 ^ 63 := by simpa using hn
                                           have := Nat.lt_of_mul_lt_mul_right this; omega
    by_cases h : n < 128
    · have e : uvarF (f + 1) n = [UInt8.ofNat n] := by rw [uvarF, if_pos h]
      have et : (UInt8.ofNat n).toNat = n := by simp; omega
      rw [e, List.singleton_append, rdU, et]
      rw [if_neg (by rintro ⟨h1, h2⟩; have := h9 h1; have := hp (by omega); omega), if_neg (by rintro ⟨h1, h2⟩; have := hp h1; omega), if_pos h]
      rfl
    have e : uvarF (f + 1) n = UInt8.ofNat (n % 128 + 128) :: uvarF f (n / 128) := by rw [uvarF, if_neg h]
    have hm : n % 128 < 128 := Nat.mod_lt _ (by omega)
    have et : (UInt8.ofNat (n % 128 + 128)).toNat = n % 128 + 128 := by simp; omega
    rw [e, List.cons_append, rdU, et]
    rw [if_neg (by rintro ⟨h1, h2⟩; have := h9 h1; omega), if_neg (by omega), if_neg (by omega)]
    have hn2 : n / 128 * 2 ^ (7 * (i + 1)) < 18446744073709551616 := by
      have e1 : (2 : Nat) ^ (7 * (i + 1)) = 128 * 2 ^ (7 * i) := by rw [show 7 * (i + 1) = 7 + 7 * i by omega, Nat.pow_add]
      rw [e1, ← Nat.mul_assoc]
      exact Nat.lt_of_le_of_lt (Nat.mul_le_mul_right _ (Nat.div_mul_le_self n 128)) hn
    rw [rdU_uvarF f (i + 1) (n / 128) r (by omega) hn2 (fun _ => by omega)]
    simp only [Option.map_some, List.length_cons]
    congr 2
    omega
theorem rdE_uvar (n : Nat) (r : List UInt8) (hn : n < 18446744073709551616) : rdE (uvar n ++ r) = some (n, (uvar n).length) :=
  rdU_uvarF 10 0 n r (by omega) (by simpa using hn) (by omega)
theorem uvS_canon {l r : List UInt8} {s : RSt} {n : Nat} (hf : s.fl = false) (hl : l.drop s.at_ = uvar n ++ r) (hn : n < 18446744073709551616) :
    (uvS l s).1 = n ∧ (uvS l s).2.fl = false ∧ l.drop (uvS l s).2.at_ = r := by
  obtain ⟨at_, fl⟩ := s
  simp only at hf hl
  subst hf
  have e : uvS l ⟨at_, false⟩ = (n, ⟨at_ + (uvar n).length, false⟩) := by
    unfold uvS
    rw [hl, rdE_uvar n r hn]
    rfl
  rw [e]
  refine ⟨rfl, rfl, ?_⟩
  show l.drop (at_ + (uvar n).length) = r
  rw [← List.drop_drop, hl, List.drop_left]
theorem uvar_pos (n : Nat) : 0 < (uvar n).length := by
  show 0 < (uvarF 10 n).length
  rw [uvarF]
  split <;> simp
end Go.Proofs.YtmhlgbpgdhhfnaaGreat
namespace Go.Proofs.YtmhlgbpgdhhfnaaGreat
open Go.RowKit Go.Maps

theorem Chg.of_grown {w w' : World} {row : Option Nat} (h : w.grownBy w' row) : Chg (fun k => some k = row) w w' := ⟨h.os, h.tape, h.output, h.size, fun k hk hn => h.block k hk hn⟩
/-- A reader that has failed. -/
def badS (l : List UInt8) (s : RSt) : RSt := if s.fl = true then s else ⟨l.length, true⟩
/-- n bytes can be taken. -/
def okS (n : Nat) (l : List UInt8) (s : RSt) : Bool := !s.fl && decide (s.at_ + n ≤ l.length)
def tkS (n : Nat) (l : List UInt8) (s : RSt) : List UInt8 × RSt := if okS n l s then ((l.drop s.at_).take n, ⟨s.at_ + n, false⟩) else ([], badS l s)
theorem tkS_ok {n : Nat} {l : List UInt8} {s : RSt} (hf : s.fl = false) (h : s.at_ + n ≤ l.length) : tkS n l s = ((l.drop s.at_).take n, ⟨s.at_ + n, false⟩) := by
  unfold tkS okS; rw [hf, if_pos (by simp [h])]
theorem tkS_bad {n : Nat} {l : List UInt8} {s : RSt} (h : s.fl = true ∨ l.length < s.at_ + n) : tkS n l s = ([], badS l s) := by
  unfold tkS okS
  rw [if_neg]
  rcases h with h | h
  · simp [h]
  simp; omega
theorem tkS_len {n : Nat} {l : List UInt8} {s : RSt} : (tkS n l s).1.length ≤ n := by
  unfold tkS; split
  · simp; omega
  simp

set_option maxRecDepth 100000 in
set_option maxHeartbeats 2000000 in
theorem octTakeBad (p : Nat) (n : Nat) (l : List UInt8) (s : RSt) (w : World) (h : ORd w p l s) (hb : s.fl = true ∨ l.length < s.at_ + n) (hmx : l.length ≤ 140737488355328) :
    Calls Tryz.prog 47 #[.pointer (some ⟨p, 0, none⟩), .int .i64 n] w fun e w' => e = .returned (.slice none 0 0) ∧ RAft p l (badS l s) w w' := by
  obtain ⟨b, cap, er, ea, h⟩ := h
  have hc := h.box.cell
  have hl := h.box.lt
  have hle := h.le
  have H := Lib.hid h
  obtain ⟨at_, fl⟩ := s
  simp only at hc hle hb
  clear h
  cases fl with
  | true =>
    clear hb
    go_enter Tryz.func47, Tryz.ntmps47
    go_wp2
    go_ret
    exact ⟨rfl, RAft.same H.out⟩
  | false =>
    have hb2 : l.length < at_ + n := by
      rcases hb with h | h
      · cases h
      exact h
    have hg : (l.length : Int) - at_ < n := by omega
    have H10 : Hid ((10 : Int) ≠ 0) := by show (10 : Int) ≠ 0; decide
    clear hb
    go_enter Tryz.func47, Tryz.ntmps47
    go_wp2_with (first
      | (go_at_call 69; refine (octRest p b cap er ea l _ _ H.out hmx).mono ?_; rintro e w1 ⟨rfl, m, rfl⟩)
      | (go_at_call 68; refine (octFail1 p b cap er ea _ l at_ _ (H.out.drewN _) H10.out).mono ?_; rintro e w2 ⟨rfl, h2, h3⟩; have H2 := Lib.hid (And.intro h2 h3); clear h2 h3))
    go_ret
    exact ⟨rfl, ⟨_, _, _, _, H2.out.1⟩, ((Chg.refl (fun j => j = p) w).drewN _).trans H2.out.2⟩

/-- What take answers: a slice that reads as these bytes. -/
theorem octTakeS (p : Nat) (n : Nat) (l : List UInt8) (s : RSt) (w : World) (h : ORd w p l s) (hmx : l.length ≤ 140737488355328) :
    Calls Tryz.prog 47 #[.pointer (some ⟨p, 0, none⟩), .int .i64 n] w fun e w' => ∃ A c, e = .returned (.slice A (tkS n l s).1.length c) ∧ Rd w' p A (bv (tkS n l s).1) ∧ RAft p l (tkS n l s).2 w w' := by
  by_cases hb : s.fl = true ∨ l.length < s.at_ + n
  · rw [tkS_bad hb]
    exact (octTakeBad p n l s w h hb hmx).mono fun e w' ⟨h1, h2⟩ => ⟨none, 0, h1, Rd.nil _ _ _, h2⟩
  obtain ⟨at_, fl⟩ := s
  simp only [not_or, Bool.not_eq_true] at hb
  obtain ⟨rfl, hlt⟩ := hb
  have hle : at_ + n ≤ l.length := by omega
  rw [tkS_ok rfl hle]
  obtain ⟨b, cap, er, ea, h⟩ := h
  have hlen : ((l.drop at_).take n).length = n := by simp; omega
  refine (octTake p b cap n er ea l at_ w h hle hmx).mono fun e w' ⟨h1, h2, h3⟩ => ⟨tailA b cap at_, cap - at_, by rw [h1]; simp only [hlen], ((h2.rd).tail_ at_ h2.cap_).take_ n, ⟨_, _, _, _, h2⟩, h3⟩

def hd0 : List UInt8 → UInt8
  | [] => 0
  | c :: _ => c
set_option maxRecDepth 100000 in
set_option maxHeartbeats 2000000 in
theorem octByte (p : Nat) (l : List UInt8) (s : RSt) (w : World) (h : ORd w p l s) (hmx : l.length ≤ 140737488355328) :
    Calls Tryz.prog 25 #[.pointer (some ⟨p, 0, none⟩)] w fun e w' => e = .returned (.int .u8 (hd0 (tkS 1 l s).1).toNat) ∧ RAft p l (tkS 1 l s).2 w w' := by
  have H := Lib.hid h
  have hln := tkS_len (n := 1) (l := l) (s := s)
  clear h
  generalize hr : tkS 1 l s = r at hln
  obtain ⟨t, s'⟩ := r
  have Hr := Lib.hid hr
  clear hr
  simp only at hln
  cases t with
  | nil =>
    go_enter Tryz.func25, Tryz.ntmps25
    go_wp2_with (go_at_call 47; refine (octTakeS p 1 l s _ H.out hmx).mono ?_; rintro e w1 ⟨A, c, he, h1, h2⟩; rw [Hr.out] at he h1 h2; simp only [List.length_nil] at he; subst he; have HA := Lib.hid h2; clear h1 h2)
    refine wp_loop_rounds 1 ?_
    rw [rounds_succ]
    go_wp2
    go_ret
    exact ⟨rfl, HA.out⟩
  | cons x r =>
    obtain rfl : r = [] := by cases r with
      | nil => rfl
      | cons _ _ => simp at hln
    go_enter Tryz.func25, Tryz.ntmps25
    go_wp2_with (go_at_call 47; refine (octTakeS p 1 l s _ H.out hmx).mono ?_; rintro e w1 ⟨A, c, he, h1, h2⟩; rw [Hr.out] at he h1 h2; simp only [List.length_singleton] at he; subst he; obtain ⟨ad, rfl, _, hcell⟩ := h1 0 (.int .u8 x.toNat) rfl; rw [show ad.add 0 = ad from rfl] at hcell; have HA := Lib.hid h2; clear h1 h2)
    refine wp_loop_rounds 1 ?_
    rw [rounds_succ]
    go_wp2
    go_ret
    exact ⟨rfl, HA.out⟩
end Go.Proofs.YtmhlgbpgdhhfnaaGreat
namespace Go.Proofs.YtmhlgbpgdhhfnaaGreat
open Go.RowKit Go.Maps

def fxN (t : List UInt8) : Nat := t.foldl (fun v c => v * 256 + c.toNat) 0
theorem fxN_snoc (t : List UInt8) (c : UInt8) : fxN (t ++ [c]) = fxN t * 256 + c.toNat := by simp [fxN, List.foldl_append]
theorem fold_lt : ∀ (t : List UInt8) (v : Nat), t.foldl (fun v c => v * 256 + c.toNat) v < (v + 1) * 256 ^ t.length
  | [], v => by simp
  | c :: t, v => by
    have h := fold_lt t (v * 256 + c.toNat)
    have hc := c.toNat_lt
    rw [List.foldl_cons, List.length_cons, Nat.pow_succ]
    refine Nat.lt_of_lt_of_le h ?_
    rw [Nat.mul_comm (256 ^ t.length) 256, ← Nat.mul_assoc]
    exact Nat.mul_le_mul_right _ (by omega)
theorem fxN_lt (t : List UInt8) : fxN t < 256 ^ t.length := by
  have := fold_lt t 0
  simpa [fxN] using this
theorem shl8_or (v c : Nat) (hv : v < 16777216) (hc : c < 256) : bits .or .u64 ((v : Int) * 256) (c : Int) = ((v * 256 + c : Nat) : Int) := by
  have e : ((v : Int) * 256) = ((v * 256 : Nat) : Int) := by omega
  rw [e, u64_or _ _ (by omega) (by omega)]
  have h := Nat.two_pow_add_eq_or_of_lt (i := 8) (b := c) (by omega) v
  rw [show v * 256 = 2 ^ 8 * v by omega, ← h]

set_option maxRecDepth 100000 in
set_option maxHeartbeats 2000000 in
theorem octFixed4 (p : Nat) (l : List UInt8) (s : RSt) (w : World) (h : ORd w p l s) (hmx : l.length ≤ 140737488355328) :
    Calls Tryz.prog 48 #[.pointer (some ⟨p, 0, none⟩), .int .i64 4] w fun e w' => e = .returned (.int .u64 (fxN (tkS 4 l s).1)) ∧ RAft p l (tkS 4 l s).2 w w' := by
  have H := Lib.hid h
  have hln := tkS_len (n := 4) (l := l) (s := s)
  clear h
  generalize hr : tkS 4 l s = r at hln
  obtain ⟨t, s'⟩ := r
  have Hr := Lib.hid hr
  clear hr
  simp only at hln
  go_enter Tryz.func48, Tryz.ntmps48
  go_wp2_with (go_at_call 47; refine (octTakeS p 4 l s _ H.out hmx).mono ?_; rintro e w1 ⟨A, c, he, h1, h2⟩; rw [Hr.out] at he h1 h2; simp only at he h1 h2; subst he; have HA := Lib.hid h2; have HR := Lib.hid h1; clear h1 h2)
  go_loop [5, 12] (fun v i => ∃ k : Nat, k ≤ t.length ∧ i = .int .i64 k ∧ v = .int .u64 (fxN (t.take k)))
    (fun _ i => t.length - (intOf i).toNat)
  case atStart => exact ⟨0, Nat.zero_le _, rfl, rfl⟩
  case round =>
    obtain ⟨k, hk, rfl, rfl⟩ := hrel
    by_cases hlt : k < t.length
    · obtain ⟨ad, rfl, _, hc⟩ := HR.out k (.int .u8 t[k].toNat) (by simp [bv, hlt])
      have hk0 : (0 : Int) ≤ k := by omega
      have hk1 : (k : Int) < t.length := by omega
      have hv := fxN_lt (t.take k)
      have hv2 : fxN (t.take k) < 16777216 := by
        refine Nat.lt_of_lt_of_le hv (Nat.le_trans (Nat.pow_le_pow_right (by omega) (show (t.take k).length ≤ 3 by rw [List.length_take]; omega)) (by decide))
      have hsn : fxN (t.take (k + 1)) = fxN (t.take k) * 256 + t[k].toNat := by rw [List.take_succ_eq_append_getElem hlt, fxN_snoc]
      have Hsn := Lib.hid hsn
      have hc256 := t[k].toNat_lt
      clear hsn hv
      generalize fxN (t.take k) = v at hv2 Hsn
      generalize t[k].toNat = x at hc hc256 Hsn
      have hor := shl8_or v x hv2 hc256
      go_wp2
      go_round
      case rel => exact ⟨k + 1, by omega, by go_num, by rw [Hsn.out]; go_num⟩
      case measure => simp [intOf]; omega
    have hke : Hid (t.take k = t) := List.take_of_length_le (by omega)
    go_wp2
    go_ret
    rw [hke.out]
    exact ⟨rfl, HA.out⟩
set_option maxRecDepth 100000 in
theorem octRU32 (p : Nat) (l : List UInt8) (s : RSt) (w : World) (h : ORd w p l s) (hmx : l.length ≤ 140737488355328) :
    Calls Tryz.prog 26 #[.pointer (some ⟨p, 0, none⟩)] w fun e w' => e = .returned (.int .u32 (fxN (tkS 4 l s).1)) ∧ RAft p l (tkS 4 l s).2 w w' := by
  have H := Lib.hid h
  have hv := fxN_lt (tkS 4 l s).1
  have hv2 : fxN (tkS 4 l s).1 < 4294967296 := Nat.lt_of_lt_of_le hv (Nat.le_trans (Nat.pow_le_pow_right (by omega) (tkS_len (n := 4) (l := l) (s := s))) (by decide))
  clear h hv
  generalize hr : fxN (tkS 4 l s).1 = v at hv2
  have Hr := Lib.hid hr
  clear hr
  go_enter Tryz.func26, Tryz.ntmps26
  go_wp2_with (go_at_call 48; refine (octFixed4 p l s _ H.out hmx).mono ?_; rintro e w1 ⟨he, h1⟩; rw [Hr.out] at he; subst he; have HA := Lib.hid h1; clear h1)
  go_ret
  exact ⟨rfl, HA.out⟩

set_option maxRecDepth 100000 in
set_option maxHeartbeats 2000000 in
theorem octRaw (p n : Nat) (l : List UInt8) (s : RSt) (w : World) (h : ORd w p l s) (hn : n ≤ 140737488355000) (hmx : l.length ≤ 140737488355328) :
    Calls Tryz.prog 72 #[.pointer (some ⟨p, 0, none⟩), .int .i64 n] w fun e w' => ∃ b c, e = .returned (.slice b (tkS n l s).1.length c) ∧ w'.ownsRow w.heap.size 5 1 (.slice b (tkS n l s).1.length c) (tkS n l s).1.length (bv (tkS n l s).1) ∧ RAft p l (tkS n l s).2 w w' := by
  obtain ⟨i0, hi0, hz0, hs0, hy0⟩ := info_parts info_u8
  have H := Lib.hid h
  have hpl := h.lt
  have hln := tkS_len (n := n) (l := l) (s := s)
  clear h
  generalize hr : tkS n l s = r at hln
  obtain ⟨t, s'⟩ := r
  have Hr := Lib.hid hr
  clear hr
  simp only at hln
  go_enter Tryz.func72, Tryz.ntmps72
  go_wp2_with (first
    | (go_at_call 47; refine (octTakeS p n l s _ H.out hmx).mono ?_; rintro e w1 ⟨A, c, he, h1, h2⟩; rw [Hr.out] at he h1 h2; simp only at he h1 h2; subst he; have HA := Lib.hid h2; have HR := Lib.hid h1; clear h1 h2)
    | (at_builtin
       refine wpList_app _ rfl (.const (.slice none 0 0)) (.tmp 7) _ rfl w.heap.size 5 i0 _ 1 1 Tryz.underlying22 hi0 hz0 hs0 hy0 rfl (by omega) (.slice none 0 0) 0 [] rfl (World.ownsRow_nil _ _ _ _) p A t.length c (bv t) rfl (by rw [bv_len, Nat.mul_one]) HR.out (one_bv _) (by unfold maxLen; omega) (by omega) HA.out.2.size ?_
       intro v1 w2 hown hg _
       rw [Nat.zero_add, List.nil_append] at hown
       obtain ⟨b1, cap1, rfl⟩ := ownsRow_slice hown
       have HO := Lib.hid (And.intro hown hg)
       clear hown hg))
  go_ret
  have hcg : Chg (fun j => j = p) w1 w2 := (Chg.of_grown HO.out.2).mono (fun j _ hj => by simp [Value.ownBlock] at hj)
  exact ⟨b1, cap1, rfl, HO.out.1, HA.out.1.chg (Chg.of_grown HO.out.2) (fun k hk => by simp [Value.ownBlock] at hk), HA.out.2.trans hcg⟩

/-- The error at the end: none, if nothing has failed and nothing is left. -/
def EndE (l : List UInt8) (s : RSt) (x : Int) : Prop := (s.fl = false ∧ s.at_ = l.length) ↔ x = 0
set_option maxRecDepth 100000 in
set_option maxHeartbeats 2000000 in
theorem octEnd (p : Nat) (l : List UInt8) (s : RSt) (w : World) (h : ORd w p l s) :
    Calls Tryz.prog 73 #[.pointer (some ⟨p, 0, none⟩)] w fun e w' => ∃ x y, e = .returned (.agg #[.int .i64 x, .int .i64 y]) ∧ EndE l s x ∧ Below w.heap.size w w' := by
  obtain ⟨b, cap, er, ea, h⟩ := h
  have hc := h.box.cell
  have hl := h.box.lt
  have hle := h.le
  have hb := h.bad
  obtain ⟨at_, fl⟩ := s
  simp only at hc hle hb
  have H := Lib.hid h
  clear h
  cases fl with
  | true =>
    have HE : Hid (EndE l ⟨at_, true⟩ er) := ⟨fun e => absurd e.1 (by simp), fun e => absurd e (hb rfl)⟩
    clear hb
    go_enter Tryz.func73, Tryz.ntmps73
    go_wp2
    refine bodyPost_ret (v := .agg #[.int .i64 er, .int .i64 ea]) ?_ rfl ?_
    · simp [results, Tryz.results73, go_sem]
    refine ⟨er, ea, rfl, HE.out, ?_⟩
    repeat (first | exact (Below.refl _ _).alloc (Nat.le_refl _) _ | refine Below.setCell ?_ (by simp) _)
  | false =>
    by_cases hat : at_ < l.length
    · have HE : Hid (EndE l ⟨at_, false⟩ 13) := ⟨fun e => (by have := e.2; simp only at this; omega), fun e => absurd e (by decide)⟩
      have hd : decide (at_ < l.length) = true := decide_eq_true hat
      clear hb
      go_enter Tryz.func73, Tryz.ntmps73
      go_wp2
      go_quiet (fail)
      go_wp2
      refine bodyPost_ret (v := .agg #[.int .i64 13, .int .i64 at_]) ?_ rfl ?_
      · simp [results, Tryz.results73, go_sem]
      refine ⟨13, at_, rfl, HE.out, ?_⟩
      repeat (first | exact below_drewN ((Below.refl _ _).alloc (Nat.le_refl _) _) _ | refine Below.setCell ?_ (by simp) _)
    have HE : Hid (EndE l ⟨at_, false⟩ 0) := ⟨fun _ => rfl, fun _ => ⟨rfl, by show at_ = l.length; omega⟩⟩
    have hd : decide (at_ < l.length) = false := decide_eq_false hat
    clear hb
    go_enter Tryz.func73, Tryz.ntmps73
    go_wp2
    go_quiet (fail)
    go_wp2
    refine bodyPost_ret (v := .agg #[.int .i64 0, .int .i64 0]) ?_ rfl ?_
    · simp [results, Tryz.results73, go_sem]
    refine ⟨0, 0, rfl, HE.out, ?_⟩
    repeat (first | exact below_drewN ((Below.refl _ _).alloc (Nat.le_refl _) _) _ | refine Below.setCell ?_ (by simp) _)
end Go.Proofs.YtmhlgbpgdhhfnaaGreat
