import Derived.Test.YtifimeohdgnehaaDoorRows
import Derived.ProofKit
import Derived.WalkKit
import Derived.WalkSpells
import Derived.WalkLawsBesides
import Derived.Deep.QuietTactic
import Derived.BigQuiet
import Derived.Lib.Hide
import Derived.Lib.SmallJoins
import Derived.Shelf.Strconv.Itoa3
import Derived.Shelf.SlSorted.Search
import Derived.Test.YtifimeohdgnehaaDoorLay
namespace Go.Proofs.YtifimeohdgnehaaDoor
open Go.Shelf Go.RowKit

def okN (n : Int) : Bool := decide (0 ≤ n) && decide (n < 1073741824)
/-- The name's bytes. -/
def nmB (suf : ByteArray) (a b : Int) : ByteArray := if okN a && okN b then ByteArray.mk #[116] ++ ⟨(Lib.decDigits a.toNat).toArray⟩ ++ ByteArray.mk #[46] ++ ⟨(Lib.decDigits b.toNat).toArray⟩ ++ suf else ByteArray.mk #[]
abbrev Tab (w : World) : Prop := Lib.TabIs Tryd.prog w "internal/strconv.uint64pow10" .u64 Lib.pow10Tab

theorem tab_below {w w' : World} (h : Tab w) (hb : Below w.heap.size w w') : Tab w' := by
  have hg : Tryd.prog.globalNamed "internal/strconv.uint64pow10" = some 0 := by kernel_rfl
  unfold Tab Lib.TabIs at h ⊢
  unfold World.var? at h ⊢
  rw [hg] at h ⊢
  simp only [Option.bind_some] at h ⊢
  rw [hb.block]
  · exact h
  · refine Classical.byContradiction fun hn => ?_
    rw [Array.getElem?_eq_none (by omega)] at h
    simp at h

theorem itoa_call (u : Nat) (hu : u < 1073741824) (w : World) (h : Tab w) :
    Calls Tryd.prog 10 #[.int .i64 u] w fun e w' => e = .returned (.string ⟨(Lib.decDigits u).toArray⟩) ∧ Below w.heap.size w w' := by
  refine (Any.strconv_Itoa Tryd.laysM171 u (by omega) (by omega) w h).mono ?_
  rintro e w' ⟨rfl, k, os, rfl⟩
  refine ⟨?_, below_grown_sl _ _ _ _ (Nat.le_refl _)⟩
  rw [Lib.itoa, if_neg (by omega), Int.toNat_natCast]

theorem enc_digit (d : Nat) (h : d < 10) : Utf8.encode ((48 : Int) + d) = ⟨#[UInt8.ofNat (48 + d)]⟩ := by
  have : ∀ d : Fin 10, Utf8.encode ((48 : Int) + (d.val : Int)) = ⟨#[UInt8.ofNat (48 + d.val)]⟩ := by decide
  exact this ⟨d, h⟩

theorem enc_mod (m : Nat) : Utf8.encode ((48 : Int) + (m : Int) % 10) = ⟨[UInt8.ofNat (48 + m % 10)].toArray⟩ := by
  rw [show (m : Int) % 10 = ((m % 10 : Nat) : Int) by omega]
  exact enc_digit (m % 10) (Nat.mod_lt _ (by omega))
theorem enc_size1 (m : Nat) (h : m < 10) : (Utf8.encode ((48 : Int) + m)).size ≤ 1 := by rw [enc_digit m h]; exact Nat.le_refl 1
theorem enc_size2 (m : Nat) : (Utf8.encode ((48 : Int) + (m : Int) % 10)).size ≤ 1 := by rw [enc_mod]; exact Nat.le_refl 1
theorem str_app (a b : List UInt8) : (ByteArray.mk a.toArray) ++ (ByteArray.mk b.toArray) = ⟨(a ++ b).toArray⟩ := by
  apply ByteArray.ext
  simp
theorem str_app_one (c : UInt8) (b : List UInt8) : (ByteArray.mk #[c]) ++ (ByteArray.mk b.toArray) = ⟨(c :: b).toArray⟩ := str_app [c] b
theorem dig_small (m : Nat) (h : m < 10) : Lib.decDigits m = [UInt8.ofNat (48 + m)] := by rw [Lib.decDigits, dif_pos h]
theorem dig_big (m : Nat) (h : ¬ m < 10) : Lib.decDigits m = Lib.decDigits (m / 10) ++ [UInt8.ofNat (48 + m % 10)] := by rw [Lib.decDigits, dif_neg h]

set_option maxRecDepth 100000 in
theorem decimal5 (u : Nat) (hu : u < 1073741824) (w : World) :
    Calls Tryd.prog 12 #[.int .i64 u] w fun e w' => e = .returned (.string ⟨(Lib.decDigits u).toArray⟩) ∧ w = w' := by
  go_enter Tryd.func12, Tryd.ntmps12
  go_wp2
  go_loop [0, 3] (fun n s => ∃ (m : Nat) (t : List UInt8), m + t.length ≤ u ∧ n = .int .i64 m ∧ s = .string ⟨t.toArray⟩ ∧ Lib.decDigits u = Lib.decDigits m ++ t)
    (fun n _ => (intOf n).toNat)
  case atStart => exact ⟨u, [], by simp, rfl, rfl, by simp⟩
  case round =>
    obtain ⟨m, t, hm, rfl, rfl, he⟩ := hrel
    have He := Lib.hid he
    clear he
    by_cases h : m < 10
    · go_wp2
      · have := enc_size1 m h
        exfalso
        omega
      go_ret
      rw [He.out, dig_small m h, enc_digit m h]
      exact ⟨congrArg (fun x => Ending.returned (.string x)) (str_app _ _), rfl⟩
    · go_wp2
      · have := enc_size2 m
        exfalso
        omega
      go_round
      case rel =>
        refine ⟨m / 10, UInt8.ofNat (48 + m % 10) :: t, by simp; omega, by go_num, ?_, by rw [He.out, dig_big m h, List.append_assoc]; rfl⟩
        rw [enc_mod]
        exact congrArg Value.string (str_app _ _)
      case measure => simp [intOf]; omega
end Go.Proofs.YtifimeohdgnehaaDoor
