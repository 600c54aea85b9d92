import Derived.Test.YtbmbgkgjlnookaaDoorNq12
/- ManifestNames: the document's digits. -/
namespace Go.Proofs.YtbmbgkgjlnookaaDoor
open Go.Shelf Go.RowKit

theorem dig_go {s : List UInt8} {k m : Nat} (hk : k < s.length) (h : 48 ≤ s[k].toNat ∧ s[k].toNat ≤ 57) : digR m (s.drop k) = digR (min (m * 10 + (s[k].toNat - 48)) 1073741824) (s.drop (k + 1)) := by
  rw [List.drop_eq_getElem_cons hk, digR, if_pos h]
theorem dig_end {s : List UInt8} {k m : Nat} (hk : k < s.length) (h : ¬ (48 ≤ s[k].toNat ∧ s[k].toNat ≤ 57)) : digR m (s.drop k) = (m, s.drop k) := by
  rw [List.drop_eq_getElem_cons hk]
  exact dig_stop h m _
theorem dig_out {s : List UInt8} {k m : Nat} (hk : s.length ≤ k) : digR m (s.drop k) = (m, s.drop k) := by
  rw [List.drop_eq_nil_of_le hk, digR]
set_option maxRecDepth 100000 in
set_option maxHeartbeats 4000000 in
theorem digits_any (S : ByteArray) (a : Nat) (ha : a ≤ S.size) (hz : S.size ≤ 1048576) (w : World) :
    Calls Tryd.prog 31 #[.string S, .int .i64 a] w fun e w' =>
      e = .returned (.tuple #[.int .i64 (digR 0 (S.data.toList.drop a)).1, .int .i64 ((S.size - (digR 0 (S.data.toList.drop a)).2.length : Nat) : Int)]) ∧ w' = w := by
  generalize hd : digR 0 (S.data.toList.drop a) = dr
  have hd := Lib.hid hd
  have hsz : S.data.toList.length = S.size := by simp
  have HL := Lib.hid hsz
  clear hsz
  go_enter Tryd.func31, Tryd.ntmps31
  go_wp2
  go_loop [1, 6] (fun p n => ∃ k m : Nat, k ≤ S.size ∧ m ≤ 1073741824 ∧ p = .int .i64 k ∧ n = .int .i64 m ∧ digR m (S.data.toList.drop k) = dr) (fun p _ => S.size - (intOf p).toNat)
  case atStart => exact ⟨a, 0, ha, by omega, rfl, rfl, hd.out⟩
  case round =>
    obtain ⟨k, m, hk, hm, rfl, rfl, hr⟩ := hrel
    by_cases hlt : k < S.size
    · have hj0 : (0 : Int) ≤ k := by omega
      have hj1 : (k : Int) < S.size := by omega
      have hks : k < S.data.toList.length := by rw [HL.out]; exact hlt
      by_cases hdg : 48 ≤ S[k].toNat ∧ S[k].toNat ≤ 57
      · have HR := Lib.hid ((dig_go (m := m) hks hdg).symm.trans hr)
        have hcl := S[k].toNat_lt
        have HH := Lib.hid (show digR (min (m * 10 + (S[k].toNat - 48)) 1073741824) (S.data.toList.drop (k + 1)) = dr from HR.out)
        clear HR hr hd
        generalize hcc : S[k] = c at HH hdg hcl
        have a1 : ¬ (c.toNat : Int) < 48 := by omega
        have a2 : ¬ (57 : Int) < c.toNat := by omega
        have b1 : IntKind.i64.wrap ((m : Int) * 10) = (m : Int) * 10 := Go.IntWalk.i64_in _ (by omega)
        have b2 : IntKind.u8.wrap ((c.toNat : Int) - 48) = (c.toNat : Int) - 48 := by rw [IntKind.wrap_u8]; omega
        have hmm : ((min (m * 10 + (c.toNat - 48)) 1073741824 : Nat) : Int) = min ((m : Int) * 10 + ((c.toNat : Int) - 48)) 1073741824 := by omega
        go_wp2
        go_round
        case rel => exact ⟨k + 1, min (m * 10 + (c.toNat - 48)) 1073741824, by omega, by omega, by go_num, by rw [hmm], HH.out⟩
        case measure => simp [intOf]; omega
      · have HR := Lib.hid ((dig_end (m := m) hks hdg).symm.trans hr)
        have hcl := S[k].toNat_lt
        clear hr hd
        have hdg' : ¬ (48 ≤ S[k].toNat ∧ S[k].toNat ≤ 57) := hdg
        generalize hcc : S[k] = c at hdg' hcl
        clear hdg
        rcases (show c.toNat < 48 ∨ (48 ≤ c.toNat ∧ 57 < c.toNat) by omega) with h1 | ⟨h1, h2⟩
        · have a1 : (c.toNat : Int) < 48 := by omega
          clear hdg'
          go_wp2
          go_ret2
          rw [← HR.out]
          refine ⟨?_, rfl⟩
          have := HL.out
          rw [show S.size - (S.data.toList.drop k).length = k by rw [List.length_drop]; omega]
          rfl
        · have a1 : ¬ (c.toNat : Int) < 48 := by omega
          have a2 : (57 : Int) < c.toNat := by omega
          clear hdg'
          go_wp2
          go_ret2
          rw [← HR.out]
          refine ⟨?_, rfl⟩
          have := HL.out
          rw [show S.size - (S.data.toList.drop k).length = k by rw [List.length_drop]; omega]
          rfl
    · have HR := Lib.hid ((dig_out (m := m) (s := S.data.toList) (k := k) (by rw [HL.out]; omega)).symm.trans hr)
      clear hr hd
      have hj1 : ¬ (k : Int) < S.size := by omega
      go_wp2
      go_ret2
      rw [← HR.out]
      refine ⟨?_, rfl⟩
      have := HL.out
      rw [show S.size - (S.data.toList.drop k).length = k by rw [List.length_drop]; omega]
      rfl
end Go.Proofs.YtbmbgkgjlnookaaDoor
