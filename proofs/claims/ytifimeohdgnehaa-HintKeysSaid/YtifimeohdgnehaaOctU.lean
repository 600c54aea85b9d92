import Derived.Test.YtifimeohdgnehaaOct8
namespace Go.Proofs.Ytifimeohdgnehaa
open Go.RowKit Go.Maps

def uvarI (x : Int) : List UInt8 := uvar x.toNat
def textB (s : ByteArray) : List UInt8 := uvar s.size ++ s.data.toList

theorem wUv {B p c : Nat} {w0 w : World} {g : Option Nat} {l : List UInt8} (S : WS B w0 w 75 p g l) (hc : l.length ≤ c) (hcm : c ≤ 100000000000) (x : Int) (h0 : 0 ≤ x) (h1 : x < 18446744073709551616) :
    Calls Try.prog 47 #[.pointer (some ⟨p, 0, none⟩), .int .u64 x] w fun e w' =>
      e = .returned (.tuple #[]) ∧ ∃ g', WS B w0 w' 75 p g' (l ++ uvarI x) ∧ (l ++ uvarI x).length ≤ c + 10 ∧ Chg (fun k => k = p ∨ some k = g) w w' ∧ (g' = g ∨ ∃ k, g' = some k ∧ w.heap.size ≤ k) := by
  obtain ⟨n, rfl⟩ := Int.eq_ofNat_of_zero_le h0
  have hu := uvar_le n
  refine (wUvarint p g l n (by omega) w S.wr (by omega)).mono fun e w' ⟨he, g', h1, h2, h3⟩ => ⟨he, g', S.next h1 h2 h3, ?_, h2, h3⟩
  rw [List.length_append]
  show _ + (uvar n).length ≤ _
  omega

theorem rwUv {B p c : Nat} {w0 w : World} {g : Option Nat} {l : List UInt8} (S : WS B w0 w 81 p g l) (hc : l.length ≤ c) (hcm : c ≤ 100000000000) (x : Int) (h0 : 0 ≤ x) (h1 : x < 18446744073709551616) :
    Calls Try.prog 30 #[.pointer (some ⟨p, 0, none⟩), .int .u64 x] w fun e w' =>
      e = .returned (.tuple #[]) ∧ ∃ g', WS B w0 w' 81 p g' (l ++ uvarI x) ∧ (l ++ uvarI x).length ≤ c + 10 ∧ Chg (fun k => k = p ∨ some k = g) w w' ∧ (g' = g ∨ ∃ k, g' = some k ∧ w.heap.size ≤ k) := by
  obtain ⟨n, rfl⟩ := Int.eq_ofNat_of_zero_le h0
  have hu := uvar_le n
  refine (rwUvarint p g l n (by omega) w S.wr (by omega)).mono fun e w' ⟨he, g', h1, h2, h3⟩ => ⟨he, g', S.next h1 h2 h3, ?_, h2, h3⟩
  rw [List.length_append]
  show _ + (uvar n).length ≤ _
  omega

theorem wTx {B p c : Nat} {w0 w : World} {g : Option Nat} {l : List UInt8} (S : WS B w0 w 75 p g l) (hc : l.length ≤ c) (hcm : c ≤ 100000000000) (s : ByteArray) (m : Nat) (hs : s.size ≤ m) (hm : m ≤ 1000000) :
    Calls Try.prog 48 #[.pointer (some ⟨p, 0, none⟩), .string s] w fun e w' =>
      e = .returned (.tuple #[]) ∧ ∃ g', WS B w0 w' 75 p g' (l ++ textB s) ∧ (l ++ textB s).length ≤ c + 10 + m ∧ Chg (fun k => k = p ∨ some k = g) w w' ∧ (g' = g ∨ ∃ k, g' = some k ∧ w.heap.size ≤ k) := by
  have hu := uvar_le s.size
  refine (wText p g l s w S.wr (by omega) (by omega)).mono fun e w' ⟨he, g', h1, h2, h3⟩ => ⟨he, g', S.next h1 h2 h3, ?_, h2, h3⟩
  have hz : s.data.toList.length = s.size := by rw [Array.length_toList, ByteArray.size_data]
  unfold textB
  rw [List.length_append, List.length_append, hz]
  omega

theorem rwTx {B p c : Nat} {w0 w : World} {g : Option Nat} {l : List UInt8} (S : WS B w0 w 81 p g l) (hc : l.length ≤ c) (hcm : c ≤ 100000000000) (s : ByteArray) (m : Nat) (hs : s.size ≤ m) (hm : m ≤ 1000000) :
    Calls Try.prog 31 #[.pointer (some ⟨p, 0, none⟩), .string s] w fun e w' =>
      e = .returned (.tuple #[]) ∧ ∃ g', WS B w0 w' 81 p g' (l ++ textB s) ∧ (l ++ textB s).length ≤ c + 10 + m ∧ Chg (fun k => k = p ∨ some k = g) w w' ∧ (g' = g ∨ ∃ k, g' = some k ∧ w.heap.size ≤ k) := by
  have hu := uvar_le s.size
  refine (rwText p g l s w S.wr (by omega) (by omega)).mono fun e w' ⟨he, g', h1, h2, h3⟩ => ⟨he, g', S.next h1 h2 h3, ?_, h2, h3⟩
  have hz : s.data.toList.length = s.size := by rw [Array.length_toList, ByteArray.size_data]
  unfold textB
  rw [List.length_append, List.length_append, hz]
  omega
end Go.Proofs.Ytifimeohdgnehaa
