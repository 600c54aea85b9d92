import Derived.Test.YtifimeohdgnehaaOct8
namespace Go.Proofs.Ytifimeohdgnehaa
open Go.RowKit Go.Maps

/-- A number read: its value, and how many bytes it has; i bytes of it were read before. -/
def rdU : Nat → List UInt8 → Option (Nat × Nat)
  | _, [] => none
  | i, c :: r => if i = 9 ∧ c.toNat ≠ 1 then none else if 0 < i ∧ c.toNat = 0 then none else if c.toNat < 128 then some (c.toNat, 1) else (rdU (i + 1) r).map fun x => (c.toNat % 128 + 128 * x.1, x.2 + 1)
/-- What ReadUvarint answers. -/
def rdE (l : List UInt8) : Option (Nat × Nat) := rdU 0 l
def errU (i : Nat) : List UInt8 → Int
  | [] => 10
  | c :: r => if i = 9 ∧ c.toNat ≠ 1 then 11 else if 0 < i ∧ c.toNat = 0 then 11 else if c.toNat < 128 then 0 else errU (i + 1) r


theorem ofInt64 (a : Nat) (ha : a < 18446744073709551616) : (BitVec.ofInt 64 (a : Int)).toNat = a := by
  rw [BitVec.ofInt_natCast, BitVec.toNat_ofNat]; exact Nat.mod_eq_of_lt (by omega)
theorem u64_or (a b : Nat) (ha : a < 18446744073709551616) (hb : b < 18446744073709551616) : bits .or .u64 (a : Int) (b : Int) = ((a ||| b : Nat) : Int) := by
  have hx : a ||| b < 2 ^ 64 := Nat.or_lt_two_pow (by omega) (by omega)
  show IntKind.u64.wrap ((BitVec.ofInt 64 (a : Int) ||| BitVec.ofInt 64 (b : Int)).toNat : Int) = _
  rw [BitVec.toNat_or, ofInt64 a ha, ofInt64 b hb, IntKind.wrap_u64]
  omega
theorem u8_and127 (c : Nat) (hc : c < 256) : bits .and .u8 (c : Int) 127 = ((c % 128 : Nat) : Int) := by
  have e : ∀ x : Nat, x < 256 → (BitVec.ofInt 8 (x : Int)).toNat = x := fun x hx => by
    rw [BitVec.ofInt_natCast, BitVec.toNat_ofNat]; exact Nat.mod_eq_of_lt (by omega)
  have h : c &&& 127 = c % 128 := by rw [show (127 : Nat) = 2 ^ 7 - 1 from rfl, Nat.and_two_pow_sub_one_eq_mod]
  have e2 := e 127 (by omega)
  show IntKind.u8.wrap ((BitVec.ofInt 8 (c : Int) &&& BitVec.ofInt 8 127).toNat : Int) = _
  rw [BitVec.toNat_and, e c hc, show (BitVec.ofInt 8 127).toNat = 127 from rfl, h, IntKind.wrap_u8]
  omega
/-- A group laid behind those that were read. -/
theorem shl_or (acc c k : Nat) (hc : c < 256) (hk : k < 10) (ha : acc < 2 ^ (7 * k)) (hb : k = 9 → c = 1) :
    bits .or .u64 (acc : Int) (IntKind.u64.wrap (IntKind.u64.wrap (bits .and .u8 (c : Int) 127) * 2 ^ (7 * k))) = ((acc + 2 ^ (7 * k) * (c % 128) : Nat) : Int) ∧ acc + 2 ^ (7 * k) * (c % 128) < 18446744073709551616 := by
  have hp : 2 ^ (7 * k) * (c % 128) + 2 ^ (7 * k) ≤ 18446744073709551616 := by
    rcases Nat.lt_or_ge k 9 with h | h
    · have h1 : (2 : Nat) ^ (7 * k) ≤ 2 ^ 56 := Nat.pow_le_pow_right (by omega) (by omega)
      have h2 : c % 128 < 128 := Nat.mod_lt _ (by omega)
      have h3 : 2 ^ (7 * k) * (c % 128) + 2 ^ (7 * k) = 2 ^ (7 * k) * (c % 128 + 1) := by rw [Nat.mul_add, Nat.mul_one]
      rw [h3]
      exact Nat.le_trans (Nat.mul_le_mul h1 (show c % 128 + 1 ≤ 128 by omega)) (by omega)
    · obtain rfl : k = 9 := by omega
      obtain rfl := hb rfl
      decide
  have hlt : acc + 2 ^ (7 * k) * (c % 128) < 18446744073709551616 := by omega
  refine ⟨?_, hlt⟩
  have e1 : IntKind.u64.wrap ((c % 128 : Nat) : Int) = ((c % 128 : Nat) : Int) := by rw [IntKind.wrap_u64]; omega
  have e2 : (((c % 128 : Nat) : Int) * 2 ^ (7 * k)) = ((2 ^ (7 * k) * (c % 128) : Nat) : Int) := by rw [Int.natCast_mul, Int.natCast_pow, Int.mul_comm]; rfl
  have e3 : IntKind.u64.wrap ((2 ^ (7 * k) * (c % 128) : Nat) : Int) = ((2 ^ (7 * k) * (c % 128) : Nat) : Int) := by rw [IntKind.wrap_u64]; omega
  rw [u8_and127 c hc, e1, e2, e3, u64_or _ _ (by omega) (by omega)]
  congr 1
  rw [Nat.or_comm, ← Nat.two_pow_add_eq_or_of_lt ha, Nat.add_comm]
theorem rdU_err1 {k : Nat} {l : List UInt8} (hk : k < l.length) (h : k = 9 ∧ l[k].toNat ≠ 1) : rdU k (l.drop k) = none ∧ errU k (l.drop k) = 11 := by
  rw [List.drop_eq_getElem_cons hk, rdU, errU, if_pos h, if_pos h]; exact ⟨rfl, rfl⟩
theorem rdU_err2 {k : Nat} {l : List UInt8} (hk : k < l.length) (h1 : ¬ (k = 9 ∧ l[k].toNat ≠ 1)) (h : 0 < k ∧ l[k].toNat = 0) : rdU k (l.drop k) = none ∧ errU k (l.drop k) = 11 := by
  rw [List.drop_eq_getElem_cons hk, rdU, errU, if_neg h1, if_neg h1, if_pos h, if_pos h]; exact ⟨rfl, rfl⟩
theorem rdU_end {k : Nat} {l : List UInt8} (hk : k < l.length) (h1 : ¬ (k = 9 ∧ l[k].toNat ≠ 1)) (h2 : ¬ (0 < k ∧ l[k].toNat = 0)) (h : l[k].toNat < 128) : rdU k (l.drop k) = some (l[k].toNat, 1) ∧ errU k (l.drop k) = 0 := by
  rw [List.drop_eq_getElem_cons hk, rdU, errU, if_neg h1, if_neg h1, if_neg h2, if_neg h2, if_pos h, if_pos h]; exact ⟨rfl, rfl⟩
theorem rdU_next {k : Nat} {l : List UInt8} (hk : k < l.length) (h1 : ¬ (k = 9 ∧ l[k].toNat ≠ 1)) (h2 : ¬ (0 < k ∧ l[k].toNat = 0)) (h : ¬ l[k].toNat < 128) :
    rdU k (l.drop k) = (rdU (k + 1) (l.drop (k + 1))).map (fun x => (l[k].toNat % 128 + 128 * x.1, x.2 + 1)) ∧ errU k (l.drop k) = errU (k + 1) (l.drop (k + 1)) := by
  rw [List.drop_eq_getElem_cons hk, rdU, errU, if_neg h1, if_neg h1, if_neg h2, if_neg h2, if_neg h, if_neg h]; exact ⟨rfl, rfl⟩
theorem rdU_nil {k : Nat} {l : List UInt8} (hk : l.length ≤ k) : rdU k (l.drop k) = none ∧ errU k (l.drop k) = 10 := by
  rw [List.drop_of_length_le hk]; exact ⟨rfl, rfl⟩
/-- What ReadUvarint answers. -/
def UvAns (l : List UInt8) (e : Ending) : Prop := (∃ v k : Nat, rdE l = some (v, k) ∧ v < 18446744073709551616 ∧ k ≤ l.length ∧ 0 < k ∧ errU 0 l = 0 ∧ e = .returned (.tuple #[.int .u64 v, .int .i64 k, .int .i64 0])) ∨
  (rdE l = none ∧ (errU 0 l = 10 ∨ errU 0 l = 11) ∧ e = .returned (.tuple #[.int .u64 0, .int .i64 0, .int .i64 (errU 0 l)]))

set_option maxRecDepth 100000 in
set_option maxHeartbeats 4000000 in
theorem octReadU (A : Option Addr) (n c : Nat) (l : List UInt8) (w : World) (hA : Rd w w.heap.size A (bv l)) (hn : l.length = n) (hmx : n ≤ 140737488355328) :
    Calls Try.prog 58 #[.slice A n c] w fun e w' =>
      UvAns l e ∧ w = w' := by
  have Hn := Lib.hid hn
  clear hn
  go_enter Try.func58, Try.ntmps58
  go_wp2
  go_loop [5, 10] (fun v i => ∃ (k acc : Nat), k ≤ n ∧ k < 10 ∧ i = .int .i64 k ∧ v = .int .u64 acc ∧ acc < 2 ^ (7 * k) ∧ rdE l = (rdU k (l.drop k)).map (fun x => (acc + 2 ^ (7 * k) * x.1, k + x.2)) ∧ errU 0 l = errU k (l.drop k))
    (fun _ i => n - (intOf i).toNat)
  case atStart => exact ⟨0, 0, by omega, by omega, rfl, rfl, by omega, by simp [rdE], rfl⟩
  case round =>
    obtain ⟨k, acc, hk, hk10, rfl, rfl, ha, hr, he⟩ := hrel
    have Ha := Lib.hid ha
    have Hr := Lib.hid hr
    have He := Lib.hid he
    clear ha hr he
    by_cases hlt : k < n
    · have hkl : k < l.length := by rw [Hn.out]; exact hlt
      obtain ⟨ad, rfl, _, hc⟩ := hA k (.int .u8 l[k].toNat) (by simp [bv, hkl])
      generalize hcc : l[k].toNat = cc at hc
      have Hcc := Lib.hid hcc
      clear hcc
      have hc256 : cc < 256 := by rw [← Hcc.out]; exact l[k].toNat_lt
      have hbnd : cc < 256 := hc256
      by_cases h1 : k = 9 ∧ cc ≠ 1
      · obtain ⟨q1, q2⟩ := rdU_err1 hkl (by rw [Hcc.out]; exact h1)
        have HA : Hid (UvAns l (.returned (.tuple #[.int .u64 0, .int .i64 0, .int .i64 11]))) :=
          .inr ⟨by rw [Hr.out, q1]; rfl, .inr (by rw [He.out, q2]), by rw [He.out, q2]⟩
        have b1 : ((k : Int) == 9) = true := by simp; omega
        have b2 : ((cc : Int) != 1) = true := by simp; omega
        clear h1 q1 q2
        go_wp2
        go_ret3
        exact ⟨HA.out, rfl⟩
      by_cases h2 : 0 < k ∧ cc = 0
      · obtain ⟨q1, q2⟩ := rdU_err2 hkl (by rw [Hcc.out]; exact h1) (by rw [Hcc.out]; exact h2)
        have HA : Hid (UvAns l (.returned (.tuple #[.int .u64 0, .int .i64 0, .int .i64 11]))) :=
          .inr ⟨by rw [Hr.out, q1]; rfl, .inr (by rw [He.out, q2]), by rw [He.out, q2]⟩
        have b1 : ((k : Int) == 9) = false := by simp; omega
        have b2 : ((cc : Int) == 0) = true := by simp; omega
        have b3 : 0 < k := by omega
        clear h1 h2 q1 q2
        go_wp2
        go_ret3
        exact ⟨HA.out, rfl⟩
      have b2 : Hid (k = 9 → cc = 1) := fun h => Classical.byContradiction fun hn => h1 ⟨h, hn⟩
      obtain ⟨hsh, hlt64⟩ := shl_or acc cc k hc256 hk10 Ha.out b2.out
      by_cases h3 : cc < 128
      · obtain ⟨q1, q2⟩ := rdU_end hkl (by rw [Hcc.out]; exact h1) (by rw [Hcc.out]; exact h2) (by rw [Hcc.out]; exact h3)
        rw [Hcc.out] at q1
        have HA : Hid (UvAns l (.returned (.tuple #[.int .u64 ((acc + 2 ^ (7 * k) * (cc % 128) : Nat) : Int), .int .i64 ((k : Int) + 1), .int .i64 0]))) :=
          .inl ⟨_, k + 1, by rw [Hr.out, q1, Nat.mod_eq_of_lt h3]; rfl, hlt64, by omega, by omega, by rw [He.out, q2], rfl⟩
        have c1 : (((k : Int) == 9) && ((cc : Int) != 1)) = false := by
          by_cases hk9 : k = 9
          · rw [b2.out hk9]; simp
          · simp; omega
        have c2 : 0 < k → ((cc : Int) == 0) = false := by
          intro hk0
          simp; omega
        have C2 := Lib.hid c2
        clear c2
        clear h1 h2 q1 q2 b2 hlt64
        generalize acc + 2 ^ (7 * k) * (cc % 128) = tot at hsh HA
        by_cases hk9 : k = 9
        · have b1 : ((k : Int) == 9) = true := by simp; omega
          simp only [b1, Bool.true_and] at c1
          have b3 : 0 < k := by omega
          have c2 := C2.out b3
          clear hk9
          go_wp2
          go_ret3
          exact ⟨HA.out, rfl⟩
        · have b1 : ((k : Int) == 9) = false := by simp; omega
          clear c1
          by_cases hk0 : 0 < k
          · have b3 : 0 < k := by omega
            have c2 := C2.out b3
            go_wp2
            go_ret3
            exact ⟨HA.out, rfl⟩
          · have b3 : ¬ 0 < k := by omega
            go_wp2
            go_ret3
            exact ⟨HA.out, rfl⟩
      · have hk9 : k ≠ 9 := fun h => by have := b2.out h; omega
        obtain ⟨q1, q2⟩ := rdU_next hkl (by rw [Hcc.out]; exact h1) (by rw [Hcc.out]; exact h2) (by rw [Hcc.out]; exact h3)
        rw [Hcc.out] at q1
        have b1 : ((k : Int) == 9) = false := by simp; omega
        have b3 : ((cc : Int) == 0) = false := by simp; omega
        have Q := Lib.hid (And.intro q1 q2)
        have HT : Hid (acc + 2 ^ (7 * k) * (cc % 128) < 2 ^ (7 * (k + 1))) := by
          have h4 : cc % 128 < 128 := Nat.mod_lt _ (by omega)
          have h5 := Ha.out
          have h6 : (2 : Nat) ^ (7 * (k + 1)) = 2 ^ (7 * k) * 128 := by rw [show 7 * (k + 1) = 7 * k + 7 by omega, Nat.pow_add]
          have h7 : 2 ^ (7 * k) * (cc % 128) + 2 ^ (7 * k) ≤ 2 ^ (7 * k) * 128 := by
            have h3 : 2 ^ (7 * k) * (cc % 128) + 2 ^ (7 * k) = 2 ^ (7 * k) * (cc % 128 + 1) := by rw [Nat.mul_add, Nat.mul_one]
            rw [h3]; exact Nat.mul_le_mul_left _ (by omega)
          show _ < _
          omega
        clear h1 h2 q1 q2 b2 hlt64
        generalize hte : acc + 2 ^ (7 * k) * (cc % 128) = tot at hsh HT
        have HTE := Lib.hid hte
        clear hte
        by_cases hk0 : 0 < k
        all_goals
          go_wp2
          go_round
          case rel =>
            refine ⟨k + 1, tot, by omega, by omega, by go_num, rfl, HT.out, ?_, by rw [He.out, Q.out.2]⟩
            rw [Hr.out, Q.out.1, Option.map_map, ← HTE.out]
            congr 1
            funext x
            have h6 : (2 : Nat) ^ (7 * (k + 1)) = 2 ^ (7 * k) * 128 := by rw [show 7 * (k + 1) = 7 * k + 7 by omega, Nat.pow_add]
            have h7 : 2 ^ (7 * k) * (cc % 128 + 128 * x.1) = 2 ^ (7 * k) * (cc % 128) + 2 ^ (7 * (k + 1)) * x.1 := by rw [h6, Nat.mul_add, Nat.mul_assoc]
            simp only [Function.comp, Prod.mk.injEq]
            exact ⟨by rw [h7, Nat.add_assoc], by omega⟩
          case measure => simp [intOf]; omega
    · obtain ⟨q1, q2⟩ := rdU_nil (k := k) (l := l) (by rw [Hn.out]; omega)
      have HA : Hid (UvAns l (.returned (.tuple #[.int .u64 0, .int .i64 0, .int .i64 10]))) :=
        .inr ⟨by rw [Hr.out, q1]; rfl, .inl (by rw [He.out, q2]), by rw [He.out, q2]⟩
      clear q1 q2
      go_wp2
      go_ret3
      exact ⟨HA.out, rfl⟩
end Go.Proofs.Ytifimeohdgnehaa
