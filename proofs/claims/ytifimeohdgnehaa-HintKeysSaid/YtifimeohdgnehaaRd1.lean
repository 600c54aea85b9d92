import Derived.Test.YtifimeohdgnehaaRdu
import Derived.Test.YtifimeohdgnehaaOctU
namespace Go.Proofs.Ytifimeohdgnehaa
open Go.RowKit Go.Maps

/-! A reader as a plain machine. -/
structure RSt where
  at_ : Nat
  fl : Bool
def uvS (l : List UInt8) (s : RSt) : Nat × RSt :=
  if s.fl then (0, s) else match rdE (l.drop s.at_) with
    | some (v, k) => (v, ⟨s.at_ + k, false⟩)
    | none => (0, ⟨l.length, true⟩)
def txS (most : Nat) (l : List UInt8) (s : RSt) : List UInt8 × RSt :=
  if s.fl then ([], s) else match rdE (l.drop s.at_) with
    | none => ([], ⟨l.length, true⟩)
    | some (v, k) => if v ≤ most ∧ v ≤ l.length - (s.at_ + k) then ((l.drop (s.at_ + k)).take v, ⟨s.at_ + k + v, false⟩) else ([], ⟨l.length, true⟩)
theorem octReadU_some (A : Option Addr) (n c v k : Nat) (l : List UInt8) (w : World) (hr : rdE l = some (v, k)) (hA : Rd w w.heap.size A (bv l)) (hn : l.length = n) (hmx : n ≤ 140737488355328) :
    Calls Try.prog 58 #[.slice A n c] w fun e w' => e = .returned (.tuple #[.int .u64 v, .int .i64 k, .int .i64 0]) ∧ w = w' :=
  (octReadU A n c l w hA hn hmx).mono fun e w' ⟨h, hw⟩ => ⟨(by
    rcases h with ⟨v', k', h1, _, _, _, _, h2⟩ | ⟨h1, _⟩
    · rw [hr] at h1; cases h1; exact h2
    · rw [hr] at h1; cases h1), hw⟩
theorem octReadU_none (A : Option Addr) (n c : Nat) (l : List UInt8) (w : World) (x : Int) (hr : rdE l = none) (hx : errU 0 l = x) (hA : Rd w w.heap.size A (bv l)) (hn : l.length = n) (hmx : n ≤ 140737488355328) :
    Calls Try.prog 58 #[.slice A n c] w fun e w' => e = .returned (.tuple #[.int .u64 0, .int .i64 0, .int .i64 x]) ∧ w = w' :=
  (octReadU A n c l w hA hn hmx).mono fun e w' ⟨h, hw⟩ => ⟨(by
    rcases h with ⟨v', k', h1, _⟩ | ⟨_, _, h2⟩
    · rw [hr] at h1; cases h1
    · rw [hx] at h2; exact h2), hw⟩
/-- What rdE answers, in bounds. -/
theorem rdU_bound : ∀ (l : List UInt8) (i v k : Nat), i < 10 → rdU i l = some (v, k) → 0 < k ∧ k ≤ l.length ∧ v * 2 ^ (7 * i) < 18446744073709551616 ∧ i + k ≤ 10
  | [], _, _, _, _, h => by cases h
  | c :: r, i, v, k, hi, h => by
    rw [rdU] at h
    have hc : c.toNat < 256 := c.toNat_lt
    split at h
    · cases h
    · rename_i h1
      split at h
      · cases h
      · rename_i h2
        have hp : i = 9 → c.toNat = 1 := fun e => Classical.byContradiction fun hn => h1 ⟨e, hn⟩
        split at h
        · cases h
          have h9 : c.toNat * 2 ^ (7 * i) < 18446744073709551616 := by
            rcases Nat.lt_or_ge i 9 with h9 | h9
            · have h4 : (2 : Nat) ^ (7 * i) ≤ 2 ^ 56 := Nat.pow_le_pow_right (by omega) (by omega)
              have h5 := Nat.mul_le_mul (show c.toNat ≤ 127 by omega) h4
              omega
            · obtain rfl : i = 9 := by omega
              rw [hp rfl]; decide
          exact ⟨by omega, by simp, h9, by omega⟩
        · rename_i h3
          rcases hh : rdU (i + 1) r with _ | ⟨v', k'⟩
          · rw [hh] at h; cases h
          · rw [hh] at h
            simp only [Option.map_some, Option.some.injEq, Prod.mk.injEq] at h
            obtain ⟨rfl, rfl⟩ := h
            have hi9 : i ≠ 9 := fun e => by have := hp e; omega
            obtain ⟨b1, b2, b3, b4⟩ := rdU_bound r (i + 1) v' k' (by omega) hh
            refine ⟨by omega, by simp; omega, ?_, by omega⟩
            have e1 : (2 : Nat) ^ (7 * (i + 1)) = 2 ^ (7 * i) * 128 := by rw [show 7 * (i + 1) = 7 * i + 7 by omega, Nat.pow_add]
            rw [e1] at b3
            have e2 : (c.toNat % 128 + 128 * v') * 2 ^ (7 * i) = c.toNat % 128 * 2 ^ (7 * i) + v' * (2 ^ (7 * i) * 128) := by
              rw [Nat.add_mul, Nat.mul_comm 128 v', Nat.mul_assoc v', Nat.mul_comm 128]
            rw [e2]
            have e3 : v' * (2 ^ (7 * i) * 128) = 2 ^ (7 * i) * (128 * v') := by rw [Nat.mul_comm, Nat.mul_assoc]
            -- both summands are multiples of 2^(7i), and 2^64 is one as well
            have h6 : c.toNat % 128 < 128 := Nat.mod_lt _ (by omega)
            have e4 : (18446744073709551616 : Nat) = 2 ^ (7 * i) * 2 ^ (64 - 7 * i) := by rw [← Nat.pow_add, show 7 * i + (64 - 7 * i) = 64 by omega]
            have e5 : (2 : Nat) ^ (64 - 7 * i) = 128 * 2 ^ (57 - 7 * i) := by rw [show 64 - 7 * i = 7 + (57 - 7 * i) by omega, Nat.pow_add]
            have hpos : 0 < (2 : Nat) ^ (7 * i) := Nat.pow_pos (by omega)
            rw [e3, e4, e5] at b3
            have b5 : 128 * v' < 128 * 2 ^ (57 - 7 * i) := Nat.lt_of_mul_lt_mul_left b3
            have b6 : v' + 1 ≤ 2 ^ (57 - 7 * i) := by omega
            have b7 : c.toNat % 128 + 128 * v' < 128 * 2 ^ (57 - 7 * i) := by omega
            rw [e3, Nat.mul_comm (c.toNat % 128), ← Nat.mul_add, e4, e5]
            exact Nat.mul_lt_mul_of_pos_left b7 hpos
theorem rdE_bound {l : List UInt8} {v k : Nat} (h : rdE l = some (v, k)) : 0 < k ∧ k ≤ l.length ∧ v < 18446744073709551616 := by
  have := rdU_bound l 0 v k (by omega) h
  omega
theorem errU_ne : ∀ (l : List UInt8) (i : Nat), rdU i l = none → errU i l = 10 ∨ errU i l = 11
  | [], _, _ => .inl rfl
  | c :: r, i, h => by
    rw [rdU] at h
    rw [errU]
    split at h
    · rename_i h1; rw [if_pos h1]; exact .inr rfl
    · rename_i h1
      rw [if_neg h1]
      split at h
      · rename_i h2; rw [if_pos h2]; exact .inr rfl
      · rename_i h2
        rw [if_neg h2]
        split at h
        · cases h
        · rename_i h3
          rw [if_neg h3]
          rcases hh : rdU (i + 1) r with _ | x
          · exact errU_ne r (i + 1) hh
          · rw [hh] at h; cases h
theorem uvS_le {l : List UInt8} {s : RSt} (h : s.at_ ≤ l.length) : (uvS l s).2.at_ ≤ l.length ∧ s.at_ ≤ (uvS l s).2.at_ ∧ (uvS l s).1 < 18446744073709551616 := by
  unfold uvS
  split
  · exact ⟨h, Nat.le_refl _, by simp⟩
  · split
    · rename_i v k hr
      have := rdE_bound hr
      simp only [List.length_drop] at this
      simp only
      omega
    · simp only; omega
theorem txS_le {most : Nat} {l : List UInt8} {s : RSt} (h : s.at_ ≤ l.length) : (txS most l s).2.at_ ≤ l.length ∧ s.at_ ≤ (txS most l s).2.at_ ∧ (txS most l s).1.length ≤ most := by
  unfold txS
  split
  · exact ⟨h, Nat.le_refl _, by simp⟩
  · split
    · simp only [List.length_nil]; omega
    · rename_i v k hr
      have := rdE_bound hr
      simp only [List.length_drop] at this
      split
      · simp only [List.length_take, List.length_drop]; omega
      · simp only [List.length_nil]; omega
/-- A part of a row. -/
theorem Rd.drop_ {w : World} {B : Nat} {ad : Addr} {l : List UInt8} (h : Rd w B (some ad) (bv l)) (k : Nat) : Rd w B (some (ad.add k)) (bv (l.drop k)) := by
  intro j u hj
  obtain ⟨a2, e, hb, hc⟩ := h (k + j) u (by simpa [bv] using hj)
  cases e
  exact ⟨_, rfl, by rw [add_block]; exact hb, by rw [add_add']; exact hc⟩
theorem Rd.take_ {w : World} {B : Nat} {A : Option Addr} {l : List UInt8} (h : Rd w B A (bv l)) (k : Nat) : Rd w B A (bv (l.take k)) := by
  intro j u hj
  refine h j u ?_
  simp only [bv, List.getElem?_map, List.getElem?_take] at hj ⊢
  split at hj
  · exact hj
  · cases hj
/-- 'b[at:]' of a row of bytes, whatever its room. -/
def tailA (b : Option Addr) (cap k : Nat) : Option Addr := if cap = k then b else b.map (·.add k)
theorem Rd.tail_ {w : World} {B : Nat} {b : Option Addr} {l : List UInt8} {cap : Nat} (h : Rd w B b (bv l)) (k : Nat) (hc : l.length ≤ cap) : Rd w B (tailA b cap k) (bv (l.drop k)) := by
  unfold tailA
  split
  · rename_i e
    subst e
    rw [List.drop_of_length_le hc]
    exact Rd.nil _ _ _
  · cases b with
    | some ad => exact h.drop_ k
    | none =>
      intro j u hj
      obtain ⟨_, e, _⟩ := h (k + j) u (by simpa [bv] using hj)
      cases e
theorem run_tail (W : World) (t : TypeId) (ht : Try.prog.underlying t = some (.slice 5)) (hs : ∀ w, (Go.sizeOf 5).run Try.prog w = .ok 1 w) (b : Option Addr) (len cap k : Nat) (hk : k ≤ len) :
    (Instr.slice t (.slice b len cap) (some (.int .i64 (k : Int))) none none).run Try.prog W = .ok (.slice (tailA b cap k) (len - k) (cap - k)) W := by
  have he : Try.prog.elem t = 5 := by simp [Program.elem, ht]
  have ht' : Try.prog.underlying t = some (.slice (Try.prog.elem t)) := by rw [he]; exact ht
  rw [run_slice_l W t _ _ _ ht' .i64 _ (by omega) (by omega), he, hs]
  simp [Result.andThen, sliced, tailA]
end Go.Proofs.Ytifimeohdgnehaa
