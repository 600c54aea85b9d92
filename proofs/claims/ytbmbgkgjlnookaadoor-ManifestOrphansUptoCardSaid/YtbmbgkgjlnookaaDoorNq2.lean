import Derived.Test.YtbmbgkgjlnookaaDoorNq1
import Derived.Test.YtbmbgkgjlnookaaDoorMem
import Derived.Deep.RegionHeld3
import Derived.Deep.DeepCutAuto
import Derived.Outline
/- ManifestNames: a file's name, as the program makes it. -/
namespace Go.Proofs.YtbmbgkgjlnookaaDoor
open Go.Shelf Go.RowKit

theorem Below.al (W : World) (o : Obj) : Below W.heap.size W (W.alloc o) := (Below.refl _ _).alloc (Nat.le_refl _) o
theorem Box.next {W W' : World} {bl : Nat} {t : TypeId} {ar : Array Value} (h : Box W bl t ar) (hb : Below W.heap.size W W') : Box W' bl t ar := h.below hb h.lt
/-- The name of a segment or its hint. -/
def pieceN (suf : List UInt8) (id seg : Int) : List UInt8 := if okId id ∧ okSeg seg then 116 :: (dec id ++ 46 :: (dec seg ++ suf)) else []
theorem piece_bad {suf : List UInt8} {a b : Int} (h : ¬ (0 ≤ a ∧ a < 1073741824) ∨ ¬ (1 ≤ b ∧ b < 1073741824)) : pieceN suf a b = [] := by
  unfold pieceN okId okSeg
  rw [if_neg]
  omega
theorem piece_good (suf : List UInt8) (u v : Nat) (hu : u < 1073741824) (hv : v < 1073741824) (h1 : 1 ≤ v) :
    (⟨(pieceN suf u v).toArray⟩ : ByteArray) = ByteArray.mk #[116] ++ ⟨(Lib.decDigits u).toArray⟩ ++ ByteArray.mk #[46] ++ ⟨(Lib.decDigits v).toArray⟩ ++ ⟨suf.toArray⟩ := by
  unfold pieceN okId okSeg dec
  rw [if_pos ⟨⟨by omega, by omega⟩, by omega, by omega⟩]
  apply ByteArray.ext
  simp
set_option maxRecDepth 100000 in
theorem piece_any (k a b : Int) (t : Bool) (suf : List UInt8) (w : World) (ht : Tab w) (hs : suf.length ≤ 100) :
    Calls Tryd.prog 23 #[.agg #[.int .i64 k, .int .i64 a, .int .i64 b, .bool t], .string ⟨suf.toArray⟩] w fun e w' => e = .returned (.string ⟨(pieceN suf a b).toArray⟩) ∧ Below w.heap.size w w' := by
  have hsz : (⟨suf.toArray⟩ : ByteArray).size ≤ 100 := by show suf.toArray.size ≤ 100; simpa using hs
  go_enter Tryd.func23, Tryd.ntmps23
  by_cases ha0 : 0 ≤ a
  case neg =>
    go_wp2
    all_goals go_ret
    all_goals exact ⟨by rw [piece_bad (.inl (by omega))]; rfl, Below.al _ _⟩
  by_cases ha1 : a < 1073741824
  case neg =>
    go_wp2
    all_goals go_ret
    all_goals exact ⟨by rw [piece_bad (.inl (by omega))]; rfl, Below.al _ _⟩
  by_cases hb0 : 1 ≤ b
  case neg =>
    go_wp2
    all_goals go_ret
    all_goals exact ⟨by rw [piece_bad (.inr (by omega))]; rfl, Below.al _ _⟩
  by_cases hb1 : b < 1073741824
  case neg =>
    go_wp2
    all_goals go_ret
    all_goals exact ⟨by rw [piece_bad (.inr (by omega))]; rfl, Below.al _ _⟩
  obtain ⟨u, rfl⟩ : ∃ u : Nat, a = u := ⟨a.toNat, by omega⟩
  obtain ⟨v, rfl⟩ : ∃ v : Nat, b = v := ⟨b.toNat, by omega⟩
  have hu : u < 1073741824 := by omega
  have hv : v < 1073741824 := by omega
  have lu : (Lib.decDigits u).length ≤ 1073741824 := by have := dig_len u; omega
  have lv : (Lib.decDigits v).length ≤ 1073741824 := by have := dig_len v; omega
  have R := Lib.hid (piece_good suf u v hu hv (by omega))
  have t1 := True.intro
  have hx0 := Box.new w 23 #[.int .i64 k, .int .i64 (u : Int), .int .i64 (v : Int), .bool t]
  have ha := Below.al w (.cells #[.int .i64 k, .int .i64 (u : Int), .int .i64 (v : Int), .bool t] 23)
  have HX := Lib.hid (And.intro hx0 ha)
  have ht' := Lib.hid (tab_below ht ha)
  clear ht hx0 ha
  obtain ⟨sf, hsf⟩ : ∃ sf, (⟨suf.toArray⟩ : ByteArray) = sf := ⟨_, rfl⟩
  rw [hsf] at R hsz
  rw [hsf]
  clear hsf
  clear t1
  go_upto_region 3 with go_in
  have hs : (w.alloc (.cells #[.int .i64 k, .int .i64 (u : Int), .int .i64 (v : Int), .bool t] 23)).drew.cell? ⟨w.heap.size, 1, none⟩ = some (.int .i64 (u : Int)) ∧ (w.alloc (.cells #[.int .i64 k, .int .i64 (u : Int), .int .i64 (v : Int), .bool t] 23)).drew.cell? ⟨w.heap.size, 2, none⟩ = some (.int .i64 (v : Int)) := ⟨HX.out.1.cell 1, HX.out.1.cell 2⟩
  have hd0 : Below (w.alloc (.cells #[.int .i64 k, .int .i64 (u : Int), .int .i64 (v : Int), .bool t] 23)).heap.size (w.alloc (.cells #[.int .i64 k, .int .i64 (u : Int), .int .i64 (v : Int), .bool t] 23)) (w.alloc (.cells #[.int .i64 k, .int .i64 (u : Int), .int .i64 (v : Int), .bool t] 23)).drew := ⟨rfl, rfl, rfl, Nat.le_refl _, fun _ _ => rfl⟩
  have HD := Lib.hid hd0
  clear hd0
  obtain ⟨su, hsu⟩ : ∃ su : ByteArray, (⟨(Lib.decDigits u).toArray⟩ : ByteArray) = su := ⟨_, rfl⟩
  obtain ⟨sv, hsv⟩ : ∃ sv : ByteArray, (⟨(Lib.decDigits v).toArray⟩ : ByteArray) = sv := ⟨_, rfl⟩
  have zu : su.size ≤ 1073741824 := by rw [← hsu]; show (Lib.decDigits u).toArray.size ≤ _; simpa using lu
  have zv : sv.size ≤ 1073741824 := by rw [← hsv]; show (Lib.decDigits v).toArray.size ≤ _; simpa using lv
  rw [hsu, hsv] at R
  have HU := Lib.hid (And.intro hsu hsv)
  have HV := Lib.hid (And.intro hu hv)
  have zu2 : (su.size : Int) ≤ 1073741824 := by omega
  have zv2 : (sv.size : Int) ≤ 1073741824 := by omega
  have zs2 : (sf.size : Int) ≤ 100 := by omega
  have q1 : ¬ 9223372036854775807 < 1 + su.size := by omega
  have q2 : ¬ 9223372036854775807 < 1 + su.size + 1 := by omega
  have q3 : ¬ 9223372036854775807 < 1 + su.size + 1 + sv.size := by omega
  have q4 : ¬ 9223372036854775807 < 1 + su.size + 1 + sv.size + sf.size := by omega
  have q5 : ¬ 9223372036854775807 < (ByteArray.mk #[116] ++ su).size + 1 := by rw [ByteArray.size_append]; exact q2
  have q6 : ¬ 9223372036854775807 < (ByteArray.mk #[116] ++ su ++ ByteArray.mk #[46]).size + sv.size := by rw [ByteArray.size_append, ByteArray.size_append]; exact q3
  have q7 : ¬ 9223372036854775807 < (ByteArray.mk #[116] ++ su ++ ByteArray.mk #[46] ++ sv).size + sf.size := by rw [ByteArray.size_append, ByteArray.size_append, ByteArray.size_append]; exact q4
  clear zu2 zv2 zs2
  clear hsu hsv lu lv zu zv hu hv hsz
  go_region_held3 (fun w' => w'.cell? ⟨w.heap.size, 1, none⟩ = some (.int .i64 (u : Int)) ∧ w'.cell? ⟨w.heap.size, 2, none⟩ = some (.int .i64 (v : Int)))
    (first | with_reducible exact hs)
    (first
      | (go_at_call 25
         have z0 := ht'
         clear z0
         refine (itoa_call u HV.out.1 _ (tab_below ht'.out HD.out)).mono ?_
         rintro e w1 ⟨rfl, hb1⟩
         rw [HU.out.1]
         have B1 := Lib.hid (HD.out.trans hb1)
         have T1 := Lib.hid (tab_below ht'.out B1.out)
         have hx1 := HX.out.1.next B1.out
         clear hs
         have hs : w1.cell? ⟨w.heap.size, 1, none⟩ = some (.int .i64 (u : Int)) ∧ w1.cell? ⟨w.heap.size, 2, none⟩ = some (.int .i64 (v : Int)) := ⟨hx1.cell 1, hx1.cell 2⟩
         clear hb1 ht' hx1)
      | (go_at_call 25
         refine (itoa_call v HV.out.2 _ T1.out).mono ?_
         rintro e w2 ⟨rfl, hb2⟩
         rw [HU.out.2]
         have hx1 := HX.out.1.next (B1.out.trans (hb2.mono B1.out.size))
         clear hs
         have hs : w2.cell? ⟨w.heap.size, 1, none⟩ = some (.int .i64 (u : Int)) ∧ w2.cell? ⟨w.heap.size, 2, none⟩ = some (.int .i64 (v : Int)) := ⟨hx1.cell 1, hx1.cell 2⟩
         have B2 := Lib.hid hb2
         clear hb2 hx1))
  go_wp2
  go_ret
  have B3 := B1.out.trans (B2.out.mono B1.out.size)
  exact ⟨by rw [R.out]; rfl, HX.out.2.trans (B3.mono HX.out.2.size)⟩
end Go.Proofs.YtbmbgkgjlnookaaDoor
