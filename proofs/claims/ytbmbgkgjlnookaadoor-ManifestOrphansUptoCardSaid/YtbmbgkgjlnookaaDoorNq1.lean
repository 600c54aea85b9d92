import Derived.Test.YtbmbgkgjlnookaaDoorRows
import Derived.ProofKit
import Derived.WalkKit
import Derived.WalkSpells
import Derived.WalkLawsBesides
import Derived.Deep.QuietTactic
import Derived.BigQuiet
import Derived.Lib.Hide
import Derived.Lib.SmallJoins
import Derived.Shelf.Strconv.Itoa3
import Derived.Shelf.SlSorted.Search
import Derived.Test.YtbmbgkgjlnookaaDoorLayD
import Derived.Test.YtbmbgkgjlnookaaDoorPl2
import Derived.Deep.RegionWith
namespace Go.Proofs.YtbmbgkgjlnookaaDoor
open Go.Shelf Go.RowKit

abbrev Tab (w : World) : Prop := Lib.TabIs Tryd.prog w "internal/strconv.uint64pow10" .u64 Lib.pow10Tab

theorem tab_below {w w' : World} (h : Tab w) (hb : Below w.heap.size w w') : Tab w' := by
  have hg : Tryd.prog.globalNamed "internal/strconv.uint64pow10" = some 2 := by kernel_rfl
  unfold Tab Lib.TabIs at h ⊢
  unfold World.var? at h ⊢
  rw [hg] at h ⊢
  simp only [Option.bind_some] at h ⊢
  rw [hb.block]
  · exact h
  · refine Classical.byContradiction fun hn => ?_
    rw [Array.getElem?_eq_none (by omega)] at h
    simp at h

theorem itoa_call (u : Nat) (hu : u < 1073741824) (w : World) (h : Tab w) :
    Calls Tryd.prog 25 #[.int .i64 u] w fun e w' => e = .returned (.string ⟨(Lib.decDigits u).toArray⟩) ∧ Below w.heap.size w w' := by
  refine (Any.strconv_Itoa layM171 u (by omega) (by omega) w h).mono ?_
  rintro e w' ⟨rfl, k, os, rfl⟩
  refine ⟨?_, below_grown_sl _ _ _ _ (Nat.le_refl _)⟩
  rw [Lib.itoa, if_neg (by omega), Int.toNat_natCast]

theorem enc_digit (d : Nat) (h : d < 10) : Utf8.encode ((48 : Int) + d) = ⟨#[UInt8.ofNat (48 + d)]⟩ := by
  have : ∀ d : Fin 10, Utf8.encode ((48 : Int) + (d.val : Int)) = ⟨#[UInt8.ofNat (48 + d.val)]⟩ := by decide
  exact this ⟨d, h⟩

theorem enc_mod (m : Nat) : Utf8.encode ((48 : Int) + (m : Int) % 10) = ⟨[UInt8.ofNat (48 + m % 10)].toArray⟩ := by
  rw [show (m : Int) % 10 = ((m % 10 : Nat) : Int) by omega]
  exact enc_digit (m % 10) (Nat.mod_lt _ (by omega))
theorem enc_size1 (m : Nat) (h : m < 10) : (Utf8.encode ((48 : Int) + m)).size ≤ 1 := by rw [enc_digit m h]; exact Nat.le_refl 1
theorem enc_size2 (m : Nat) : (Utf8.encode ((48 : Int) + (m : Int) % 10)).size ≤ 1 := by rw [enc_mod]; exact Nat.le_refl 1
theorem str_app (a b : List UInt8) : (ByteArray.mk a.toArray) ++ (ByteArray.mk b.toArray) = ⟨(a ++ b).toArray⟩ := by
  apply ByteArray.ext
  simp
theorem str_app_one (c : UInt8) (b : List UInt8) : (ByteArray.mk #[c]) ++ (ByteArray.mk b.toArray) = ⟨(c :: b).toArray⟩ := str_app [c] b
theorem dig_small (m : Nat) (h : m < 10) : Lib.decDigits m = [UInt8.ofNat (48 + m)] := by rw [Lib.decDigits, dif_pos h]
theorem dig_big (m : Nat) (h : ¬ m < 10) : Lib.decDigits m = Lib.decDigits (m / 10) ++ [UInt8.ofNat (48 + m % 10)] := by rw [Lib.decDigits, dif_neg h]

theorem conv_one (W : World) (b : Nat) (c : UInt8) (k : Nat) (h : W.cell? ⟨b, 0, none⟩ = some (.int .u8 c.toNat)) :
    (convert 67 9 (.slice (some ⟨b, 0, none⟩) 1 k)).run Tryd.prog W = .ok (.string ⟨#[c]⟩) W := by
  refine run_convert_bytes_back W 67 9 5 ⟨b, 0, none⟩ k [c] Tryd.underlying67 Tryd.underlying5 Tryd.underlying9 ?_
  intro j hj
  obtain rfl : j = 0 := by simpa using hj
  simpa [Addr.add] using h

theorem conv_drew (W : World) (c : UInt8) (k t : Nat) :
    (convert 67 9 (.slice (some ⟨W.heap.size, 0, none⟩) 1 k)).run Tryd.prog (W.alloc (.cells #[.int .u8 c.toNat] t)).drew = .ok (.string ⟨#[c]⟩) (W.alloc (.cells #[.int .u8 c.toNat] t)).drew :=
  conv_one _ _ _ _ (World.cell?_alloc_mark W _ _ _ 0)
theorem conv_drew2 (W : World) (c : UInt8) (k t : Nat) :
    (convert 67 9 (.slice (some ⟨W.heap.size, 0, none⟩) 1 k)).run Tryd.prog (W.alloc (.cells #[.int .u8 c.toNat] t)).drew.drew = .ok (.string ⟨#[c]⟩) (W.alloc (.cells #[.int .u8 c.toNat] t)).drew.drew :=
  conv_one _ _ _ _ (World.cell?_alloc_mark W _ _ _ 0)
theorem conv_below {w W w1 : World} {c : UInt8} {t : Nat} (h : Below W.heap.size W w1) (hh : W.heap = (w.alloc (.cells #[.int .u8 c.toNat] t)).heap) (k : Nat) :
    (convert 67 9 (.slice (some ⟨w.heap.size, 0, none⟩) 1 k)).run Tryd.prog w1 = .ok (.string ⟨#[c]⟩) w1 := by
  refine conv_one _ _ _ _ ?_
  have h1 : w.heap.size < W.heap.size := by rw [hh]; simp
  rw [h.cell (p := ⟨w.heap.size, 0, none⟩) h1]
  have e := World.cell?_alloc_mark w #[.int .u8 c.toNat] t (0, 0) 0
  unfold World.cell? at e ⊢
  rw [hh]
  exact e
theorem dig_len (v : Nat) : (Lib.decDigits v).length ≤ v + 1 := by
  induction v using Nat.strongRecOn with
  | _ v ih =>
    by_cases h : v < 10
    · rw [dig_small v h]; simp
    · have := ih (v / 10) (by omega)
      rw [dig_big v h, List.length_append]
      simp
      omega
theorem conv_alloc (W : World) (c : UInt8) (k t : Nat) :
    (convert 67 9 (.slice (some ⟨W.heap.size, 0, none⟩) 1 k)).run Tryd.prog (W.alloc (.cells #[.int .u8 c.toNat] t)) = .ok (.string ⟨#[c]⟩) (W.alloc (.cells #[.int .u8 c.toNat] t)) :=
  conv_one _ _ _ _ (World.cell?_alloc_mark W _ _ _ 0)

set_option maxRecDepth 100000 in
set_option maxHeartbeats 2000000 in
theorem decimal7 (u : Nat) (hu : u < 1073741824) (w : World) :
    Calls Tryd.prog 26 #[.int .i64 u] w fun e w' => e = .returned (.string ⟨(Lib.decDigits u).toArray⟩) ∧ Below w.heap.size w w' := by
  induction u using Nat.strongRecOn generalizing w with
  | _ u ih =>
    go_enter Tryd.func26, Tryd.ntmps26
    by_cases h : u < 10
    · have hcv := conv_alloc
      have hd := Lib.hid (dig_small u h)
      have hw : IntKind.u8.wrap ((48 : Int) + u) = (UInt8.ofNat (48 + u)).toNat := by rw [IntKind.wrap_u8]; simp
      generalize UInt8.ofNat (48 + u) = c at hd hw
      clear ih
      go_wp2
      go_ret
      exact ⟨by rw [hd.out]; rfl, (Below.refl _ _).alloc (Nat.le_refl _) _⟩
    · have hd := Lib.hid (dig_big u h)
      have IH := Lib.hid (fun W => ih (u / 10) (by omega) (by omega) W)
      have hw : IntKind.u8.wrap ((48 : Int) + (u : Int) % 10) = (UInt8.ofNat (48 + u % 10)).toNat := by rw [IntKind.wrap_u8]; simp
      have hq : ((u / 10 : Nat) : Int) = (u : Int) / 10 := by omega
      rw [hq] at IH
      generalize UInt8.ofNat (48 + u % 10) = c at hd hw
      have hq2 : IntKind.i64.wrap ((u : Int) / 10) = (u : Int) / 10 := Go.IntWalk.i64_in _ (by omega)
      have hq3 : Int.tmod (u : Int) 10 = (u : Int) % 10 := Int.tmod_eq_emod_of_nonneg (by omega)
      have hq4 : IntKind.i64.wrap ((48 : Int) + (u : Int) % 10) = (48 : Int) + (u : Int) % 10 := Go.IntWalk.i64_in _ (by omega)
      have hlen : (Lib.decDigits (u / 10)).length ≤ 1073741824 := by have := dig_len (u / 10); omega
      clear ih hq
      have hcv := conv_alloc
      have hcv1 := conv_drew
      have hcv2 := conv_drew2
      go_wp2
      go_region_with (go_at_call 26; refine (IH.out _).mono ?_; rintro e w1 ⟨rfl, hb1⟩; first | have hcv2 := conv_below (w := w) (c := c) (t := 5) hb1 rfl | skip)
      all_goals (go_wp2; go_ret; refine ⟨by rw [hd.out]; exact congrArg (fun x => Ending.returned (.string x)) (str_app _ _), ?_⟩)
      · have h0 : Below w.heap.size w w.drew := ⟨rfl, rfl, rfl, Nat.le_refl _, fun _ _ => rfl⟩
        exact (h0.trans hb1).alloc hb1.size _
      all_goals
        have h0 : Below w.heap.size w (w.alloc (.cells #[.int .u8 c.toNat] 5)).drew := (show Below w.heap.size w (w.alloc (.cells #[.int .u8 c.toNat] 5)) from (Below.refl _ _).alloc (Nat.le_refl _) _).trans ⟨rfl, rfl, rfl, Nat.le_refl _, fun _ _ => rfl⟩
        exact h0.trans (hb1.mono h0.size)
end Go.Proofs.YtbmbgkgjlnookaaDoor
