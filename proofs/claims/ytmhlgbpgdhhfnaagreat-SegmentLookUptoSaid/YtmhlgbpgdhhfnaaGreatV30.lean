import Derived.Test.YtmhlgbpgdhhfnaaGreatV27
import Derived.Test.YtmhlgbpgdhhfnaaGreatV28
import Derived.Test.YtmhlgbpgdhhfnaaGreatV18
import Derived.Test.YtmhlgbpgdhhfnaaGreatV29
set_option linter.unusedVariables false
set_option linter.unusedSimpArgs false
namespace Go.Proofs.YtmhlgbpgdhhfnaaGreat
open Go.RowKit Go.Maps Sqz

theorem readQ_any (A : Option Addr) (n c : Nat) (b : List UInt8) (w : World) (hA : Rd w w.heap.size A (bv b)) (hn : b.length = n) (hmx : n ≤ 4096) :
    Calls Tryz.prog 18 #[.slice A n c] w fun e w' => e = .returned (recV (rdR b)) ∧ Below w.heap.size w w' := by
  rcases hs1 : byS b ⟨0, false⟩ with ⟨f1, s1⟩
  rcases hs2 : uvS b s1 with ⟨o1, s2⟩
  rcases hs3 : uvS b s2 with ⟨t1, s3⟩
  rcases hs4 : uvS b s3 with ⟨p1, s4⟩
  rcases hs5 : uvS b s4 with ⟨q1, s5⟩
  by_cases hc : 4 ≤ f1
  · rcases hs6 : txS 64 b s5 with ⟨k1, s6⟩
    rcases hs7 : rawS b s6 with ⟨v1, s7⟩
    exact readQ_1 A n c b w hA hn hmx f1 o1 t1 p1 q1 k1 v1 s1 s2 s3 s4 s5 s6 s7 hs1 hs2 hs3 hs4 hs5 hs6 hs7 hc
  rcases hs6 : txS 64 b s3 with ⟨k1, s6⟩
  rcases hs7 : rawS b s6 with ⟨v1, s7⟩
  exact readQ_0 A n c b w hA hn hmx f1 o1 t1 k1 v1 s1 s2 s3 s6 s7 hs1 hs2 hs3 hs6 hs7 hc
theorem i64_small {x : Int} (h0 : 0 ≤ x) (h1 : x < 9223372036854775808) : i64 x.toNat = x := by unfold i64 wrap64; omega
theorem uvS_on {l r : List UInt8} {s : RSt} {n : Nat} (h : At l s (uvar n ++ r)) (hn : n < 18446744073709551616) : (uvS l s).1 = n ∧ At l (uvS l s).2 r := by
  obtain ⟨h1, h2, h3⟩ := uvS_canon h.1 h.2 hn
  exact ⟨h1, h2, h3⟩
theorem partsR_on (c : UInt8) (off time pid seq : Nat) (key val : List UInt8) (h1 : off < 9223372036854775808) (h2 : time < 9223372036854775808) (h3 : pid < 9223372036854775808) (h4 : seq < 9223372036854775808) (h5 : key.length ≤ 64) (h8 : c.toNat < 8) (h6 : c.toNat / 4 % 2 ≠ 1 → pid = 0 ∧ seq = 0) :
    partsR (c :: (uvar off ++ (uvar time ++ ((if c.toNat / 4 % 2 = 1 then uvar pid ++ uvar seq else []) ++ (textL key ++ val))))) = ⟨c.toNat, off, time, pid, seq, key, val⟩ := by
  generalize hb : c :: (uvar off ++ (uvar time ++ ((if c.toNat / 4 % 2 = 1 then uvar pid ++ uvar seq else []) ++ (textL key ++ val)))) = b
  have a0 : At b ⟨0, false⟩ (c :: (uvar off ++ (uvar time ++ ((if c.toNat / 4 % 2 = 1 then uvar pid ++ uvar seq else []) ++ (textL key ++ val))))) := ⟨rfl, hb.symm⟩
  obtain ⟨e1, a1⟩ := byS_on a0
  obtain ⟨e2, a2⟩ := uvS_on a1 (by omega)
  obtain ⟨e3, a3⟩ := uvS_on a2 (by omega)
  unfold partsR
  simp only
  rw [e1, e2, e3]
  by_cases hc : c.toNat / 4 % 2 = 1
  · have hc4 : 4 ≤ c.toNat := by omega
    rw [if_pos hc] at a3
    rw [List.append_assoc] at a3
    simp only [if_pos hc4]
    obtain ⟨e4, a4⟩ := uvS_on a3 (by omega)
    obtain ⟨e5, a5⟩ := uvS_on a4 (by omega)
    obtain ⟨e6, a6⟩ := txS_on a5 h5 (by omega)
    obtain ⟨e7, a7⟩ := rawS_on a6
    rw [e4, e5, e6, e7]
  have hc4 : ¬ 4 ≤ c.toNat := by omega
  rw [if_neg hc, List.nil_append] at a3
  simp only [if_neg hc4]
  obtain ⟨e6, a6⟩ := txS_on a3 h5 (by omega)
  obtain ⟨e7, a7⟩ := rawS_on a6
  obtain ⟨rfl, rfl⟩ := h6 hc
  rw [e6, e7]
set_option maxRecDepth 10000 in
/-- The document reads in a record's body just that record. -/
theorem rdR_body (r : Rc) (hk : chkR r = 0) : rdR (bodyR r) = r := by
  obtain ⟨k1, ⟨k2, k2'⟩, ⟨k3, k3'⟩, ⟨k4, k4'⟩, k5, k6, k7, k8, k9, k10⟩ := chk_ok.1 hk
  obtain ⟨kind, off, time, pid, seq, key, val⟩ := r
  simp only at k1 k2 k2' k3 k3' k4 k4' k5 k6 k7 k8 k9 k10
  have hfl := flags_lt ⟨kind, off, time, pid, seq, key, val⟩
  have hcn : (UInt8.ofNat (flagsR ⟨kind, off, time, pid, seq, key, val⟩)).toNat = flagsR ⟨kind, off, time, pid, seq, key, val⟩ := by simp; omega
  have q4 : flagsR ⟨kind, off, time, pid, seq, key, val⟩ / 4 % 2 = 1 ↔ 0 < pid := by
    unfold flagsR
    simp only
    by_cases h1 : kind = 2 <;> by_cases h2 : small val = true <;> by_cases h3 : 0 < pid <;> simp [h1, h2, h3]
  have q2 : flagsR ⟨kind, off, time, pid, seq, key, val⟩ / 2 % 2 = 1 ↔ small val = true := by
    unfold flagsR
    simp only
    by_cases h1 : kind = 2 <;> by_cases h2 : small val = true <;> by_cases h3 : 0 < pid <;> simp [h1, h2, h3]
  have q1 : flagsR ⟨kind, off, time, pid, seq, key, val⟩ % 2 = 1 ↔ kind = 2 := by
    unfold flagsR
    simp only
    by_cases h1 : kind = 2 <;> by_cases h2 : small val = true <;> by_cases h3 : 0 < pid <;> simp [h1, h2, h3]
  have hseq : 0 ≤ seq ∧ seq < 1099511627776 := by
    rcases (show pid = 0 ∨ 0 < pid by omega) with h | h
    · rw [k5 h]; omega
    have := k6 h
    unfold numOk at this
    omega
  have hp := partsR_on (UInt8.ofNat (flagsR ⟨kind, off, time, pid, seq, key, val⟩)) off.toNat time.toNat pid.toNat seq.toNat key (shortV val) (by omega) (by omega) (by omega) (by omega) k8 (by rw [hcn]; exact hfl) (fun hn => by
    rw [hcn] at hn
    have hpz : pid = 0 := by
      rcases (show pid = 0 ∨ 0 < pid by omega) with h | h
      · exact h
      exact absurd (q4.2 h) hn
    exact ⟨by omega, by rw [k5 hpz]; rfl⟩)
  have hbo : bodyR ⟨kind, off, time, pid, seq, key, val⟩ = UInt8.ofNat (flagsR ⟨kind, off, time, pid, seq, key, val⟩) :: (uvar off.toNat ++ (uvar time.toNat ++ ((if (UInt8.ofNat (flagsR ⟨kind, off, time, pid, seq, key, val⟩)).toNat / 4 % 2 = 1 then uvar pid.toNat ++ uvar seq.toNat else []) ++ (textL key ++ shortV val)))) := by
    unfold bodyR
    simp only
    rw [hcn]
    by_cases h3 : 0 < pid
    · rw [if_pos h3, if_pos (q4.2 h3)]
    rw [if_neg h3, if_neg (fun h => h3 (q4.1 h))]
  rw [← hbo] at hp
  unfold rdR
  simp only
  rw [hp]
  simp only [hcn]
  have hval : (if flagsR ⟨kind, off, time, pid, seq, key, val⟩ / 2 % 2 = 1 then (decR (shortV val)).getD [] else shortV val) = val := by
    unfold shortV
    by_cases h2 : small val = true
    · rw [if_pos (q2.2 h2), if_pos h2, (decR_iff _ _).2 ⟨by omega, rfl⟩]; rfl
    rw [if_neg (fun h => h2 (q2.1 h)), if_neg h2]
  have hkk : (if flagsR ⟨kind, off, time, pid, seq, key, val⟩ % 2 = 1 then (2 : Int) else 1) = kind := by
    by_cases h1 : kind = 2
    · rw [if_pos (q1.2 h1), h1]
    rw [if_neg (fun h => h1 (q1.1 h))]; omega
  rw [hval, hkk, i64_small k2 (by omega), i64_small k3 (by omega), i64_small k4 (by omega), i64_small hseq.1 (by omega)]
theorem be32_be4 (n : Nat) (h : n < 4294967296) : be32 n = be4 n := by
  rw [be32_mod]; unfold be4
  rw [Nat.mod_eq_of_lt (show n / 16777216 < 256 by omega)]
/-- What Wrap writes of a record's body. -/
theorem wrap_enc (r : Rc) (h : (bodyR r).length < 4294967296) : wrapB 169 (bodyR r) = encRec csum r := by
  unfold wrapB encRec
  rw [csum_app, be32_be4 _ h, be32_be4 _ (csum_lt _)]
end Go.Proofs.YtmhlgbpgdhhfnaaGreat
