import Derived.Test.YtdeaefbjddodjaaGreatDoorRows
import Derived.ProofKit
import Derived.WalkKit
import Derived.WalkSpells
import Derived.WalkLawsBesides
import Derived.Deep.QuietTactic
import Derived.BigQuiet
import Derived.Lib.Hide
import Derived.Lib.SmallJoins
import Derived.Shelf.Strconv.Itoa3
import Derived.Shelf.SlSorted.Search
import Derived.Test.YtdeaefbjddodjaaGreatDoorALayD
import Derived.Test.YtdeaefbjddodjaaGreatDoorGa
import Derived.Deep.RegionWith
import Derived.Test.YtdeaefbjddodjaaGreatDoorMem
import Derived.Deep.RegionHeld3
import Derived.Deep.DeepCutAuto
import Derived.Outline
import Derived.WideShapes
namespace Go.Proofs.YtdeaefbjddodjaaGreatDoor
open Go.Shelf Go.RowKit

abbrev Tab (w : World) : Prop := Lib.TabIs Tryz.prog w "internal/strconv.uint64pow10" .u64 Lib.pow10Tab

theorem tab_below {w w' : World} (h : Tab w) (hb : Below w.heap.size w w') : Tab w' := by
  have hg : Tryz.prog.globalNamed "internal/strconv.uint64pow10" = some 2 := by kernel_rfl
  unfold Tab Lib.TabIs at h ⊢
  unfold World.var? at h ⊢
  rw [hg] at h ⊢
  simp only [Option.bind_some] at h ⊢
  rw [hb.block]
  · exact h
  · refine Classical.byContradiction fun hn => ?_
    rw [Array.getElem?_eq_none (by omega)] at h
    simp at h

theorem itoa_call (u : Nat) (hu : u < 1073741824) (w : World) (h : Tab w) :
    Calls Tryz.prog 35 #[.int .i64 u] w fun e w' => e = .returned (.string ⟨(Lib.decDigits u).toArray⟩) ∧ Below w.heap.size w w' := by
  refine (Any.strconv_Itoa layM171 u (by omega) (by omega) w h).mono ?_
  rintro e w' ⟨rfl, k, os, rfl⟩
  refine ⟨?_, below_grown_sl _ _ _ _ (Nat.le_refl _)⟩
  rw [Lib.itoa, if_neg (by omega), Int.toNat_natCast]

theorem enc_digit (d : Nat) (h : d < 10) : Utf8.encode ((48 : Int) + d) = ⟨#[UInt8.ofNat (48 + d)]⟩ := by
  have : ∀ d : Fin 10, Utf8.encode ((48 : Int) + (d.val : Int)) = ⟨#[UInt8.ofNat (48 + d.val)]⟩ := by decide
  exact this ⟨d, h⟩

theorem enc_mod (m : Nat) : Utf8.encode ((48 : Int) + (m : Int) % 10) = ⟨[UInt8.ofNat (48 + m % 10)].toArray⟩ := by
  rw [show (m : Int) % 10 = ((m % 10 : Nat) : Int) by omega]
  exact enc_digit (m % 10) (Nat.mod_lt _ (by omega))
theorem enc_size1 (m : Nat) (h : m < 10) : (Utf8.encode ((48 : Int) + m)).size ≤ 1 := by rw [enc_digit m h]; exact Nat.le_refl 1
theorem enc_size2 (m : Nat) : (Utf8.encode ((48 : Int) + (m : Int) % 10)).size ≤ 1 := by rw [enc_mod]; exact Nat.le_refl 1
theorem str_app (a b : List UInt8) : (ByteArray.mk a.toArray) ++ (ByteArray.mk b.toArray) = ⟨(a ++ b).toArray⟩ := by
  apply ByteArray.ext
  simp
theorem str_app_one (c : UInt8) (b : List UInt8) : (ByteArray.mk #[c]) ++ (ByteArray.mk b.toArray) = ⟨(c :: b).toArray⟩ := str_app [c] b
theorem dig_small (m : Nat) (h : m < 10) : Lib.decDigits m = [UInt8.ofNat (48 + m)] := by rw [Lib.decDigits, dif_pos h]
theorem dig_big (m : Nat) (h : ¬ m < 10) : Lib.decDigits m = Lib.decDigits (m / 10) ++ [UInt8.ofNat (48 + m % 10)] := by rw [Lib.decDigits, dif_neg h]

theorem conv_one (W : World) (b : Nat) (c : UInt8) (k : Nat) (h : W.cell? ⟨b, 0, none⟩ = some (.int .u8 c.toNat)) :
    (convert 31 9 (.slice (some ⟨b, 0, none⟩) 1 k)).run Tryz.prog W = .ok (.string ⟨#[c]⟩) W := by
  refine run_convert_bytes_back W 31 9 5 ⟨b, 0, none⟩ k [c] Tryz.underlying31 Tryz.underlying5 Tryz.underlying9 ?_
  intro j hj
  obtain rfl : j = 0 := by simpa using hj
  simpa [Addr.add] using h

theorem conv_drew (W : World) (c : UInt8) (k t : Nat) :
    (convert 31 9 (.slice (some ⟨W.heap.size, 0, none⟩) 1 k)).run Tryz.prog (W.alloc (.cells #[.int .u8 c.toNat] t)).drew = .ok (.string ⟨#[c]⟩) (W.alloc (.cells #[.int .u8 c.toNat] t)).drew :=
  conv_one _ _ _ _ (World.cell?_alloc_mark W _ _ _ 0)
theorem conv_drew2 (W : World) (c : UInt8) (k t : Nat) :
    (convert 31 9 (.slice (some ⟨W.heap.size, 0, none⟩) 1 k)).run Tryz.prog (W.alloc (.cells #[.int .u8 c.toNat] t)).drew.drew = .ok (.string ⟨#[c]⟩) (W.alloc (.cells #[.int .u8 c.toNat] t)).drew.drew :=
  conv_one _ _ _ _ (World.cell?_alloc_mark W _ _ _ 0)
theorem conv_below {w W w1 : World} {c : UInt8} {t : Nat} (h : Below W.heap.size W w1) (hh : W.heap = (w.alloc (.cells #[.int .u8 c.toNat] t)).heap) (k : Nat) :
    (convert 31 9 (.slice (some ⟨w.heap.size, 0, none⟩) 1 k)).run Tryz.prog w1 = .ok (.string ⟨#[c]⟩) w1 := by
  refine conv_one _ _ _ _ ?_
  have h1 : w.heap.size < W.heap.size := by rw [hh]; simp
  rw [h.cell (p := ⟨w.heap.size, 0, none⟩) h1]
  have e := World.cell?_alloc_mark w #[.int .u8 c.toNat] t (0, 0) 0
  unfold World.cell? at e ⊢
  rw [hh]
  exact e
theorem dig_len (v : Nat) : (Lib.decDigits v).length ≤ v + 1 := by
  induction v using Nat.strongRecOn with
  | _ v ih =>
    by_cases h : v < 10
    · rw [dig_small v h]; simp
    · have := ih (v / 10) (by omega)
      rw [dig_big v h, List.length_append]
      simp
      omega
theorem conv_alloc (W : World) (c : UInt8) (k t : Nat) :
    (convert 31 9 (.slice (some ⟨W.heap.size, 0, none⟩) 1 k)).run Tryz.prog (W.alloc (.cells #[.int .u8 c.toNat] t)) = .ok (.string ⟨#[c]⟩) (W.alloc (.cells #[.int .u8 c.toNat] t)) :=
  conv_one _ _ _ _ (World.cell?_alloc_mark W _ _ _ 0)

end Go.Proofs.YtdeaefbjddodjaaGreatDoor
/- ManifestNames: a file's name, as the program makes it. -/
namespace Go.Proofs.YtdeaefbjddodjaaGreatDoor
open Go.Shelf Go.RowKit

theorem Below.al (W : World) (o : Obj) : Below W.heap.size W (W.alloc o) := (Below.refl _ _).alloc (Nat.le_refl _) o
theorem Box.next {W W' : World} {bl : Nat} {t : TypeId} {ar : Array Value} (h : Box W bl t ar) (hb : Below W.heap.size W W') : Box W' bl t ar := h.below hb h.lt
/-- The name of a segment or its hint. -/
def pieceN (suf : List UInt8) (id seg : Int) : List UInt8 := if okId id ∧ okSeg seg then 116 :: (dec id ++ 46 :: (dec seg ++ suf)) else []
theorem piece_bad {suf : List UInt8} {a b : Int} (h : ¬ (0 ≤ a ∧ a < 1073741824) ∨ ¬ (1 ≤ b ∧ b < 1073741824)) : pieceN suf a b = [] := by
  unfold pieceN okId okSeg
  rw [if_neg]
  omega
theorem piece_good (suf : List UInt8) (u v : Nat) (hu : u < 1073741824) (hv : v < 1073741824) (h1 : 1 ≤ v) :
    (⟨(pieceN suf u v).toArray⟩ : ByteArray) = ByteArray.mk #[116] ++ ⟨(Lib.decDigits u).toArray⟩ ++ ByteArray.mk #[46] ++ ⟨(Lib.decDigits v).toArray⟩ ++ ⟨suf.toArray⟩ := by
  unfold pieceN okId okSeg dec
  rw [if_pos ⟨⟨by omega, by omega⟩, by omega, by omega⟩]
  apply ByteArray.ext
  simp
set_option maxRecDepth 100000 in
theorem piece_any (k a b : Int) (t : Bool) (suf : List UInt8) (w : World) (ht : Tab w) (hs : suf.length ≤ 100) :
    Calls Tryz.prog 33 #[.agg #[.int .i64 k, .int .i64 a, .int .i64 b, .bool t], .string ⟨suf.toArray⟩] w fun e w' => e = .returned (.string ⟨(pieceN suf a b).toArray⟩) ∧ Below w.heap.size w w' := by
  have hsz : (⟨suf.toArray⟩ : ByteArray).size ≤ 100 := by show suf.toArray.size ≤ 100; simpa using hs
  go_enter Tryz.func33, Tryz.ntmps33
  by_cases ha0 : 0 ≤ a
  case neg =>
    go_wp2
    all_goals go_ret
    all_goals exact ⟨by rw [piece_bad (.inl (by omega))]; rfl, Below.al _ _⟩
  by_cases ha1 : a < 1073741824
  case neg =>
    go_wp2
    all_goals go_ret
    all_goals exact ⟨by rw [piece_bad (.inl (by omega))]; rfl, Below.al _ _⟩
  by_cases hb0 : 1 ≤ b
  case neg =>
    go_wp2
    all_goals go_ret
    all_goals exact ⟨by rw [piece_bad (.inr (by omega))]; rfl, Below.al _ _⟩
  by_cases hb1 : b < 1073741824
  case neg =>
    go_wp2
    all_goals go_ret
    all_goals exact ⟨by rw [piece_bad (.inr (by omega))]; rfl, Below.al _ _⟩
  obtain ⟨u, rfl⟩ : ∃ u : Nat, a = u := ⟨a.toNat, by omega⟩
  obtain ⟨v, rfl⟩ : ∃ v : Nat, b = v := ⟨b.toNat, by omega⟩
  have hu : u < 1073741824 := by omega
  have hv : v < 1073741824 := by omega
  have lu : (Lib.decDigits u).length ≤ 1073741824 := by have := dig_len u; omega
  have lv : (Lib.decDigits v).length ≤ 1073741824 := by have := dig_len v; omega
  have R := Lib.hid (piece_good suf u v hu hv (by omega))
  have t1 := True.intro
  have hx0 := Box.new w 30 #[.int .i64 k, .int .i64 (u : Int), .int .i64 (v : Int), .bool t]
  have ha := Below.al w (.cells #[.int .i64 k, .int .i64 (u : Int), .int .i64 (v : Int), .bool t] 30)
  have HX := Lib.hid (And.intro hx0 ha)
  have ht' := Lib.hid (tab_below ht ha)
  clear ht hx0 ha
  obtain ⟨sf, hsf⟩ : ∃ sf, (⟨suf.toArray⟩ : ByteArray) = sf := ⟨_, rfl⟩
  rw [hsf] at R hsz
  rw [hsf]
  clear hsf
  clear t1
  go_upto_region 3 with go_in
  have hs : (w.alloc (.cells #[.int .i64 k, .int .i64 (u : Int), .int .i64 (v : Int), .bool t] 30)).drew.cell? ⟨w.heap.size, 1, none⟩ = some (.int .i64 (u : Int)) ∧ (w.alloc (.cells #[.int .i64 k, .int .i64 (u : Int), .int .i64 (v : Int), .bool t] 30)).drew.cell? ⟨w.heap.size, 2, none⟩ = some (.int .i64 (v : Int)) := ⟨HX.out.1.cell 1, HX.out.1.cell 2⟩
  have hd0 : Below (w.alloc (.cells #[.int .i64 k, .int .i64 (u : Int), .int .i64 (v : Int), .bool t] 30)).heap.size (w.alloc (.cells #[.int .i64 k, .int .i64 (u : Int), .int .i64 (v : Int), .bool t] 30)) (w.alloc (.cells #[.int .i64 k, .int .i64 (u : Int), .int .i64 (v : Int), .bool t] 30)).drew := ⟨rfl, rfl, rfl, Nat.le_refl _, fun _ _ => rfl⟩
  have HD := Lib.hid hd0
  clear hd0
  obtain ⟨su, hsu⟩ : ∃ su : ByteArray, (⟨(Lib.decDigits u).toArray⟩ : ByteArray) = su := ⟨_, rfl⟩
  obtain ⟨sv, hsv⟩ : ∃ sv : ByteArray, (⟨(Lib.decDigits v).toArray⟩ : ByteArray) = sv := ⟨_, rfl⟩
  have zu : su.size ≤ 1073741824 := by rw [← hsu]; show (Lib.decDigits u).toArray.size ≤ _; simpa using lu
  have zv : sv.size ≤ 1073741824 := by rw [← hsv]; show (Lib.decDigits v).toArray.size ≤ _; simpa using lv
  rw [hsu, hsv] at R
  have HU := Lib.hid (And.intro hsu hsv)
  have HV := Lib.hid (And.intro hu hv)
  have zu2 : (su.size : Int) ≤ 1073741824 := by omega
  have zv2 : (sv.size : Int) ≤ 1073741824 := by omega
  have zs2 : (sf.size : Int) ≤ 100 := by omega
  have q1 : ¬ 9223372036854775807 < 1 + su.size := by omega
  have q2 : ¬ 9223372036854775807 < 1 + su.size + 1 := by omega
  have q3 : ¬ 9223372036854775807 < 1 + su.size + 1 + sv.size := by omega
  have q4 : ¬ 9223372036854775807 < 1 + su.size + 1 + sv.size + sf.size := by omega
  have q5 : ¬ 9223372036854775807 < (ByteArray.mk #[116] ++ su).size + 1 := by rw [ByteArray.size_append]; exact q2
  have q6 : ¬ 9223372036854775807 < (ByteArray.mk #[116] ++ su ++ ByteArray.mk #[46]).size + sv.size := by rw [ByteArray.size_append, ByteArray.size_append]; exact q3
  have q7 : ¬ 9223372036854775807 < (ByteArray.mk #[116] ++ su ++ ByteArray.mk #[46] ++ sv).size + sf.size := by rw [ByteArray.size_append, ByteArray.size_append, ByteArray.size_append]; exact q4
  clear zu2 zv2 zs2
  clear hsu hsv lu lv zu zv hu hv hsz
  go_region_held3 (fun w' => w'.cell? ⟨w.heap.size, 1, none⟩ = some (.int .i64 (u : Int)) ∧ w'.cell? ⟨w.heap.size, 2, none⟩ = some (.int .i64 (v : Int)))
    (first | with_reducible exact hs)
    (first
      | (go_at_call 35
         have z0 := ht'
         clear z0
         refine (itoa_call u HV.out.1 _ (tab_below ht'.out HD.out)).mono ?_
         rintro e w1 ⟨rfl, hb1⟩
         rw [HU.out.1]
         have B1 := Lib.hid (HD.out.trans hb1)
         have T1 := Lib.hid (tab_below ht'.out B1.out)
         have hx1 := HX.out.1.next B1.out
         clear hs
         have hs : w1.cell? ⟨w.heap.size, 1, none⟩ = some (.int .i64 (u : Int)) ∧ w1.cell? ⟨w.heap.size, 2, none⟩ = some (.int .i64 (v : Int)) := ⟨hx1.cell 1, hx1.cell 2⟩
         clear hb1 ht' hx1)
      | (go_at_call 35
         refine (itoa_call v HV.out.2 _ T1.out).mono ?_
         rintro e w2 ⟨rfl, hb2⟩
         rw [HU.out.2]
         have hx1 := HX.out.1.next (B1.out.trans (hb2.mono B1.out.size))
         clear hs
         have hs : w2.cell? ⟨w.heap.size, 1, none⟩ = some (.int .i64 (u : Int)) ∧ w2.cell? ⟨w.heap.size, 2, none⟩ = some (.int .i64 (v : Int)) := ⟨hx1.cell 1, hx1.cell 2⟩
         have B2 := Lib.hid hb2
         clear hb2 hx1))
  go_wp2
  go_ret
  have B3 := B1.out.trans (B2.out.mono B1.out.size)
  exact ⟨by rw [R.out]; rfl, HX.out.2.trans (B3.mono HX.out.2.size)⟩
end Go.Proofs.YtdeaefbjddodjaaGreatDoor
/- ManifestNames: manifest.Name. -/
namespace Go.Proofs.YtdeaefbjddodjaaGreatDoor
open Go.Shelf Go.RowKit

theorem base_piece (k id seg : Int) (t : Bool) : baseN ⟨k, id, seg, t⟩ = if k = 1 then pieceN (46 :: segB) id seg else if k = 2 then pieceN (46 :: hintB) id seg else if k = 3 then (if okId id ∧ seg = 0 then 116 :: (dec id ++ 46 :: manBA) else []) else if k = 4 ∧ id = 0 ∧ seg = 0 then catB else [] := by
  unfold baseN pieceN
  simp only
  by_cases h1 : k = 1
  · subst h1
    simp only [true_and, if_true]
    split <;> simp
  · by_cases h2 : k = 2
    · subst h2
      simp [h1]
    · by_cases h3 : k = 3
      · subst h3; simp
      · simp [h1, h2, h3]
theorem name_base (k id seg : Int) (t : Bool) {b : List UInt8} (h : baseN ⟨k, id, seg, t⟩ = b) : nameN ⟨k, id, seg, t⟩ = if b = [] then [] else if t then b ++ tmpB else b := by
  unfold nameN; rw [h]
theorem piece_len (suf : List UInt8) (a b : Int) : (pieceN suf a b).length ≤ 2147483652 + suf.length := by
  unfold pieceN
  split
  · rename_i h
    have h1 := dig_len a.toNat
    have h2 := dig_len b.toNat
    have := h.1.2
    have := h.2.2
    simp [dec]
    omega
  · simp
theorem bytes_ne {l : List UInt8} (h : l ≠ []) : ((⟨l.toArray⟩ : ByteArray).toList == (ByteArray.mk #[]).toList) = false := by
  rw [ByteArray.toList_eq, ByteArray.toList_eq]
  cases l with
  | nil => exact absurd rfl h
  | cons a l => rfl
theorem bytes_ne2 {l : List UInt8} (h : l ≠ []) : ((⟨l.toArray⟩ : ByteArray).toList == []) = false := by
  rw [ByteArray.toList_eq]
  cases l with
  | nil => exact absurd rfl h
  | cons a l => rfl
theorem bytes_ne3 {l : List UInt8} (h : l ≠ []) : ¬ (⟨l.toArray⟩ : ByteArray) = ByteArray.mk #[] := fun e => h (by
  have := congrArg (fun x : ByteArray => x.data.toList) e
  simpa using this)
set_option maxRecDepth 100000 in
theorem nameM_1 (a b : Int) (t : Bool) (w : World) (ht : Tab w) :
    Calls Tryz.prog 14 #[.agg #[.int .i64 1, .int .i64 a, .int .i64 b, .bool t]] w fun e w' => e = .returned (.string ⟨(nameN ⟨1, a, b, t⟩).toArray⟩) ∧ Below w.heap.size w w' := by
  have hx0 := Box.new w 30 #[.int .i64 1, .int .i64 a, .int .i64 b, .bool t]
  have ha := Below.al w (.cells #[.int .i64 1, .int .i64 a, .int .i64 b, .bool t] 30)
  have HX := Lib.hid (And.intro hx0 ha)
  have ht' := Lib.hid (tab_below ht ha)
  have hbp : baseN ⟨1, a, b, t⟩ = pieceN (46 :: segB) a b := by rw [base_piece]; rfl
  have hnm := Lib.hid (name_base 1 a b t hbp)
  have hpl := piece_len (46 :: segB) a b
  have hz : (46 :: segB).length ≤ 100 := by decide
  obtain ⟨pl, hpl2⟩ : ∃ pl, pieceN (46 :: segB) a b = pl := ⟨_, rfl⟩
  rw [hpl2] at hnm hpl
  have HP := Lib.hid hpl2
  clear hpl2 hbp ht hx0 ha
  obtain ⟨P, hP⟩ : ∃ P : ByteArray, (⟨pl.toArray⟩ : ByteArray) = P := ⟨_, rfl⟩
  have hPz : P.size ≤ 2147483752 := by rw [← hP]; show pl.toArray.size ≤ _; simp; omega
  have q1 : ¬ 9223372036854775807 < P.size + 4 := by omega
  clear hPz hpl hz
  have HPP := Lib.hid hP
  by_cases he : pl = []
  · have hP0 : P = ByteArray.mk #[] := by rw [← hP, he]
    clear hP q1
    subst hP0
    have HE := Lib.hid he
    clear he
    go_enter Tryz.func14, Tryz.ntmps14
    go_wp2_with (first
      | (go_at_call 33
         refine (piece_any 1 a b t (46 :: segB) _ ht'.out (by decide)).mono ?_
         rintro e w1 ⟨rfl, hb1⟩
         rw [HP.out, HPP.out]
         have B1 := Lib.hid hb1
         have hxc := (HX.out.1.next hb1).cell
         clear hb1))
    go_ret
    exact ⟨by rw [hnm.out, if_pos HE.out]; rfl, HX.out.2.trans (B1.out.mono HX.out.2.size)⟩
  · have hne : (P.toList == (ByteArray.mk #[]).toList) = false := by rw [← hP]; exact bytes_ne he
    have hne2 : (P.toList == []) = false := by rw [← hP]; exact bytes_ne2 he
    have hne3 : ¬ P = ByteArray.mk #[] := by rw [← hP]; exact bytes_ne3 he
    have HE := Lib.hid he
    clear he hP
    cases t with
    | false =>
      go_enter Tryz.func14, Tryz.ntmps14
      go_wp2_with (first
        | (go_at_call 33
           refine (piece_any 1 a b false (46 :: segB) _ ht'.out (by decide)).mono ?_
           rintro e w1 ⟨rfl, hb1⟩
           rw [HP.out, HPP.out]
           have B1 := Lib.hid hb1
           have hxc := (HX.out.1.next hb1).cell
           clear hb1))
      go_ret
      exact ⟨by rw [hnm.out, if_neg HE.out]; exact congrArg (fun x => Ending.returned (.string x)) HPP.out.symm, HX.out.2.trans (B1.out.mono HX.out.2.size)⟩
    | true =>
      go_enter Tryz.func14, Tryz.ntmps14
      go_wp2_with (first
        | (go_at_call 33
           refine (piece_any 1 a b true (46 :: segB) _ ht'.out (by decide)).mono ?_
           rintro e w1 ⟨rfl, hb1⟩
           rw [HP.out, HPP.out]
           have B1 := Lib.hid hb1
           have hxc := (HX.out.1.next hb1).cell
           clear hb1))
      go_ret
      refine ⟨?_, HX.out.2.trans (B1.out.mono HX.out.2.size)⟩
      rw [hnm.out, if_neg HE.out]
      refine congrArg (fun x => Ending.returned (.string x)) ?_
      rw [← HPP.out]
      exact str_app pl tmpB
set_option maxRecDepth 100000 in
theorem nameM_2 (a b : Int) (t : Bool) (w : World) (ht : Tab w) :
    Calls Tryz.prog 14 #[.agg #[.int .i64 2, .int .i64 a, .int .i64 b, .bool t]] w fun e w' => e = .returned (.string ⟨(nameN ⟨2, a, b, t⟩).toArray⟩) ∧ Below w.heap.size w w' := by
  have hx0 := Box.new w 30 #[.int .i64 2, .int .i64 a, .int .i64 b, .bool t]
  have ha := Below.al w (.cells #[.int .i64 2, .int .i64 a, .int .i64 b, .bool t] 30)
  have HX := Lib.hid (And.intro hx0 ha)
  have ht' := Lib.hid (tab_below ht ha)
  have hbp : baseN ⟨2, a, b, t⟩ = pieceN (46 :: hintB) a b := by rw [base_piece]; rfl
  have hnm := Lib.hid (name_base 2 a b t hbp)
  have hpl := piece_len (46 :: hintB) a b
  have hz : (46 :: hintB).length ≤ 100 := by decide
  obtain ⟨pl, hpl2⟩ : ∃ pl, pieceN (46 :: hintB) a b = pl := ⟨_, rfl⟩
  rw [hpl2] at hnm hpl
  have HP := Lib.hid hpl2
  clear hpl2 hbp ht hx0 ha
  obtain ⟨P, hP⟩ : ∃ P : ByteArray, (⟨pl.toArray⟩ : ByteArray) = P := ⟨_, rfl⟩
  have hPz : P.size ≤ 2147483752 := by rw [← hP]; show pl.toArray.size ≤ _; simp; omega
  have q1 : ¬ 9223372036854775807 < P.size + 4 := by omega
  clear hPz hpl hz
  have HPP := Lib.hid hP
  by_cases he : pl = []
  · have hP0 : P = ByteArray.mk #[] := by rw [← hP, he]
    clear hP q1
    subst hP0
    have HE := Lib.hid he
    clear he
    go_enter Tryz.func14, Tryz.ntmps14
    go_wp2_with (first
      | (go_at_call 33
         refine (piece_any 2 a b t (46 :: hintB) _ ht'.out (by decide)).mono ?_
         rintro e w1 ⟨rfl, hb1⟩
         rw [HP.out, HPP.out]
         have B1 := Lib.hid hb1
         have hxc := (HX.out.1.next hb1).cell
         clear hb1))
    go_ret
    exact ⟨by rw [hnm.out, if_pos HE.out]; rfl, HX.out.2.trans (B1.out.mono HX.out.2.size)⟩
  · have hne : (P.toList == (ByteArray.mk #[]).toList) = false := by rw [← hP]; exact bytes_ne he
    have hne2 : (P.toList == []) = false := by rw [← hP]; exact bytes_ne2 he
    have hne3 : ¬ P = ByteArray.mk #[] := by rw [← hP]; exact bytes_ne3 he
    have HE := Lib.hid he
    clear he hP
    cases t with
    | false =>
      go_enter Tryz.func14, Tryz.ntmps14
      go_wp2_with (first
        | (go_at_call 33
           refine (piece_any 2 a b false (46 :: hintB) _ ht'.out (by decide)).mono ?_
           rintro e w1 ⟨rfl, hb1⟩
           rw [HP.out, HPP.out]
           have B1 := Lib.hid hb1
           have hxc := (HX.out.1.next hb1).cell
           clear hb1))
      go_ret
      exact ⟨by rw [hnm.out, if_neg HE.out]; exact congrArg (fun x => Ending.returned (.string x)) HPP.out.symm, HX.out.2.trans (B1.out.mono HX.out.2.size)⟩
    | true =>
      go_enter Tryz.func14, Tryz.ntmps14
      go_wp2_with (first
        | (go_at_call 33
           refine (piece_any 2 a b true (46 :: hintB) _ ht'.out (by decide)).mono ?_
           rintro e w1 ⟨rfl, hb1⟩
           rw [HP.out, HPP.out]
           have B1 := Lib.hid hb1
           have hxc := (HX.out.1.next hb1).cell
           clear hb1))
      go_ret
      refine ⟨?_, HX.out.2.trans (B1.out.mono HX.out.2.size)⟩
      rw [hnm.out, if_neg HE.out]
      refine congrArg (fun x => Ending.returned (.string x)) ?_
      rw [← HPP.out]
      exact str_app pl tmpB
end Go.Proofs.YtdeaefbjddodjaaGreatDoor
/- ManifestNames: manifest.Name, the other kinds. -/
namespace Go.Proofs.YtdeaefbjddodjaaGreatDoor
open Go.Shelf Go.RowKit

theorem base_none (k id seg : Int) (t : Bool) (h : ¬ (k = 1 ∨ k = 2 ∨ (k = 3 ∧ okId id ∧ seg = 0) ∨ (k = 4 ∧ id = 0 ∧ seg = 0))) : nameN ⟨k, id, seg, t⟩ = [] := by
  have h1 : baseN ⟨k, id, seg, t⟩ = [] := by
    rw [base_piece, if_neg (fun e => h (.inl e)), if_neg (fun e => h (.inr (.inl e)))]
    by_cases h3 : k = 3
    · rw [if_pos h3, if_neg (fun e => h (.inr (.inr (.inl ⟨h3, e.1, e.2⟩))))]
    · rw [if_neg h3, if_neg (fun e => h (.inr (.inr (.inr e))))]
  unfold nameN
  rw [if_pos h1]
set_option maxRecDepth 100000 in
theorem nameM_3seg (a b : Int) (t : Bool) (w : World) (hb : ¬ b = 0) :
    Calls Tryz.prog 14 #[.agg #[.int .i64 3, .int .i64 a, .int .i64 b, .bool t]] w fun e w' => e = .returned (.string ⟨(nameN ⟨3, a, b, t⟩).toArray⟩) ∧ Below w.heap.size w w' := by
  have hn := Lib.hid (base_none 3 a b t (by rintro (e | e | ⟨_, _, e⟩ | ⟨e, _⟩); cases e; cases e; exact hb e; cases e))
  rw [hn.out]
  go_enter Tryz.func14, Tryz.ntmps14
  go_wp2_with fail
  all_goals go_ret
  all_goals exact ⟨rfl, Below.al _ _⟩
set_option maxRecDepth 100000 in
theorem nameM_4id (a b : Int) (t : Bool) (w : World) (hb : ¬ (a = 0 ∧ b = 0)) :
    Calls Tryz.prog 14 #[.agg #[.int .i64 4, .int .i64 a, .int .i64 b, .bool t]] w fun e w' => e = .returned (.string ⟨(nameN ⟨4, a, b, t⟩).toArray⟩) ∧ Below w.heap.size w w' := by
  have hn := Lib.hid (base_none 4 a b t (by rintro (e | e | ⟨e, _⟩ | ⟨_, e⟩); cases e; cases e; cases e; exact hb e))
  rw [hn.out]
  go_enter Tryz.func14, Tryz.ntmps14
  by_cases h0 : a = 0
  · have h1 : ¬ b = 0 := fun e => hb ⟨h0, e⟩
    subst h0
    clear hb
    go_wp2_with fail
    all_goals go_ret
    all_goals exact ⟨rfl, Below.al _ _⟩
  clear hb
  go_wp2_with fail
  all_goals go_ret
  all_goals exact ⟨rfl, Below.al _ _⟩
set_option maxRecDepth 100000 in
theorem nameM_lo (k a b : Int) (t : Bool) (w : World) (hk : k < 1) :
    Calls Tryz.prog 14 #[.agg #[.int .i64 k, .int .i64 a, .int .i64 b, .bool t]] w fun e w' => e = .returned (.string ⟨(nameN ⟨k, a, b, t⟩).toArray⟩) ∧ Below w.heap.size w w' := by
  have hn := Lib.hid (base_none k a b t (by omega))
  rw [hn.out]
  go_enter Tryz.func14, Tryz.ntmps14
  go_wp2_with fail
  all_goals go_ret
  all_goals exact ⟨rfl, Below.al _ _⟩
set_option maxRecDepth 100000 in
theorem nameM_hi (k a b : Int) (t : Bool) (w : World) (hk : 4 < k) :
    Calls Tryz.prog 14 #[.agg #[.int .i64 k, .int .i64 a, .int .i64 b, .bool t]] w fun e w' => e = .returned (.string ⟨(nameN ⟨k, a, b, t⟩).toArray⟩) ∧ Below w.heap.size w w' := by
  have hn := Lib.hid (base_none k a b t (by omega))
  rw [hn.out]
  go_enter Tryz.func14, Tryz.ntmps14
  go_wp2_with fail
  all_goals go_ret
  all_goals exact ⟨rfl, Below.al _ _⟩
end Go.Proofs.YtdeaefbjddodjaaGreatDoor
/- ManifestNames: manifest.Name, manifests and the catalogue; joined. -/
namespace Go.Proofs.YtdeaefbjddodjaaGreatDoor
open Go.Shelf Go.RowKit

theorem itoa_int (a : Int) (h0 : 0 ≤ a) (h1 : a < 1073741824) (w : World) (h : Tab w) :
    Calls Tryz.prog 35 #[.int .i64 a] w fun e w' => e = .returned (.string ⟨(Lib.decDigits a.toNat).toArray⟩) ∧ Below w.heap.size w w' := by
  obtain ⟨u, rfl⟩ : ∃ u : Nat, a = u := ⟨a.toNat, by omega⟩
  rw [Int.toNat_natCast]
  exact itoa_call u (by omega) w h
theorem tab_heap {w w' : World} (h : Tab w) (e : w'.heap = w.heap) : Tab w' := by
  unfold Tab Lib.TabIs at h ⊢
  unfold World.var? at h ⊢
  rw [e]
  exact h
theorem key_neN {a b : ByteArray} (h : ¬ a = b) : (a.toList == b.toList) = false := by
  rw [beq_eq_false_iff_ne]
  intro e
  rw [ByteArray.toList_eq, ByteArray.toList_eq] at e
  exact h (WideShapes.bytes_inj e)
set_option maxRecDepth 100000 in
theorem nameM_4false (w : World) :
    Calls Tryz.prog 14 #[.agg #[.int .i64 4, .int .i64 0, .int .i64 0, .bool false]] w fun e w' => e = .returned (.string ⟨(nameN ⟨4, 0, 0, false⟩).toArray⟩) ∧ Below w.heap.size w w' := by
  have hn := Lib.hid (show nameN ⟨4, 0, 0, false⟩ = catB by decide)
  rw [hn.out]
  go_enter Tryz.func14, Tryz.ntmps14
  go_wp2_with fail
  all_goals go_ret
  all_goals exact ⟨rfl, Below.al _ _⟩
set_option maxRecDepth 100000 in
theorem nameM_3bfalse (a : Int) (w : World) (ha : a < 0 ∨ 1073741824 ≤ a) :
    Calls Tryz.prog 14 #[.agg #[.int .i64 3, .int .i64 a, .int .i64 0, .bool false]] w fun e w' => e = .returned (.string ⟨(nameN ⟨3, a, 0, false⟩).toArray⟩) ∧ Below w.heap.size w w' := by
  have hn := Lib.hid (base_none 3 a 0 false (by rintro (e | e | ⟨_, e, _⟩ | ⟨e, _⟩); cases e; cases e; (have h1 := e.1; have h2 := e.2; omega); cases e))
  rw [hn.out]
  rcases ha with ha | ha
  · have h1 : ¬ 0 ≤ a := by omega
    go_enter Tryz.func14, Tryz.ntmps14
    go_wp2
    all_goals go_ret
    all_goals exact ⟨rfl, Below.al _ _⟩
  · have h0 : 0 ≤ a := by omega
    have h1 : ¬ a < 1073741824 := by omega
    go_enter Tryz.func14, Tryz.ntmps14
    go_wp2
    all_goals go_ret
    all_goals exact ⟨rfl, Below.al _ _⟩
set_option maxRecDepth 100000 in
theorem nameM_3false (a : Int) (ha0 : 0 ≤ a) (ha1 : a < 1073741824) (w : World) (ht : Tab w) :
    Calls Tryz.prog 14 #[.agg #[.int .i64 3, .int .i64 a, .int .i64 0, .bool false]] w fun e w' => e = .returned (.string ⟨(nameN ⟨3, a, 0, false⟩).toArray⟩) ∧ Below w.heap.size w w' := by
  have hx0 := Box.new w 30 #[.int .i64 3, .int .i64 a, .int .i64 0, .bool false]
  have ha := Below.al w (.cells #[.int .i64 3, .int .i64 a, .int .i64 0, .bool false] 30)
  have HX := Lib.hid (And.intro hx0 ha)
  have ht' := Lib.hid (tab_below ht ha)
  have hb : baseN ⟨3, a, 0, false⟩ = 116 :: (Lib.decDigits a.toNat ++ 46 :: manBA) := by
    rw [base_piece, if_neg (by decide), if_neg (by decide), if_pos rfl, if_pos ⟨⟨by omega, by omega⟩, rfl⟩]
    rfl
  have hn := name_base 3 a 0 false hb
  rw [if_neg (by simp)] at hn
  have hfin : (⟨(nameN ⟨3, a, 0, false⟩).toArray⟩ : ByteArray) = ByteArray.mk #[116] ++ ⟨(Lib.decDigits a.toNat).toArray⟩ ++ ByteArray.mk #[46, 109, 97, 110] := by
    rw [hn]
    apply ByteArray.ext
    simp [manBA]
  have HFN := Lib.hid hfin
  have lu : (Lib.decDigits a.toNat).length ≤ 1073741824 := by have := dig_len a.toNat; omega
  have HV := Lib.hid (And.intro ha0 ha1)
  have HL := Lib.hid lu
  have hne3 : ¬ (ByteArray.mk #[116] ++ ⟨(Lib.decDigits a.toNat).toArray⟩ ++ ByteArray.mk #[46, 109, 97, 110]) = ByteArray.mk #[] := fun e => by
    have := congrArg ByteArray.size e
    rw [ByteArray.size_append, ByteArray.size_append] at this
    have h5 : (ByteArray.mk #[46, 109, 97, 110]).size = 4 := rfl
    have h6 : (ByteArray.mk #[]).size = 0 := rfl
    omega
  have HN := Lib.hid hne3
  clear ht hx0 ha hb hn hfin hne3 lu
  go_enter Tryz.func14, Tryz.ntmps14
  go_upto_region 9 with go_in
  have lu := HL.out
  go_upto_region 12 with (first
    | (go_at_call 35
       refine (itoa_int a HV.out.1 HV.out.2 _ (tab_heap ht'.out rfl)).mono ?_
       rintro e w1 ⟨rfl, hb1⟩
       have hxc := ((show Box _ w.heap.size _ _ from HX.out.1).next hb1).cell
       have B1 := Lib.hid hb1
       clear hb1)
    | go_in)
  obtain ⟨P, hP⟩ : ∃ P : ByteArray, ByteArray.mk #[116] ++ ⟨(Lib.decDigits a.toNat).toArray⟩ ++ ByteArray.mk #[46, 109, 97, 110] = P := ⟨_, rfl⟩
  have hPz : P.size ≤ 1073741832 := by
    rw [← hP, ByteArray.size_append, ByteArray.size_append]
    have h4 : (ByteArray.mk #[116]).size = 1 := rfl
    have h5 : (ByteArray.mk #[46, 109, 97, 110]).size = 4 := rfl
    have h6 : (ByteArray.mk (Lib.decDigits a.toNat).toArray).size = (Lib.decDigits a.toNat).length := by show (Lib.decDigits a.toNat).toArray.size = _; simp
    omega
  have q1 : ¬ 9223372036854775807 < P.size + 4 := by omega
  have hne3 : ¬ P = ByteArray.mk #[] := by rw [← hP]; exact HN.out
  have hne := key_neN hne3
  have hne2 : (P.toList == []) = false := by
    rw [beq_eq_false_iff_ne]
    intro e
    rw [ByteArray.toList_eq] at e
    exact hne3 (WideShapes.bytes_inj e)
  have HPP := Lib.hid hP
  rw [hP] at HFN ⊢
  clear hP hPz lu
  go_wp2
  go_ret
  exact ⟨by rw [HFN.out]; rfl, (show Below w.heap.size w _ from ⟨HX.out.2.os, HX.out.2.tape, HX.out.2.output, HX.out.2.size, HX.out.2.block⟩).trans (B1.out.mono HX.out.2.size)⟩
set_option maxRecDepth 100000 in
theorem nameM_4true (w : World) :
    Calls Tryz.prog 14 #[.agg #[.int .i64 4, .int .i64 0, .int .i64 0, .bool true]] w fun e w' => e = .returned (.string ⟨(nameN ⟨4, 0, 0, true⟩).toArray⟩) ∧ Below w.heap.size w w' := by
  have hn := Lib.hid (show nameN ⟨4, 0, 0, true⟩ = catB ++ tmpB by decide)
  rw [hn.out]
  go_enter Tryz.func14, Tryz.ntmps14
  go_wp2_with fail
  all_goals go_ret
  all_goals exact ⟨rfl, Below.al _ _⟩
set_option maxRecDepth 100000 in
theorem nameM_3btrue (a : Int) (w : World) (ha : a < 0 ∨ 1073741824 ≤ a) :
    Calls Tryz.prog 14 #[.agg #[.int .i64 3, .int .i64 a, .int .i64 0, .bool true]] w fun e w' => e = .returned (.string ⟨(nameN ⟨3, a, 0, true⟩).toArray⟩) ∧ Below w.heap.size w w' := by
  have hn := Lib.hid (base_none 3 a 0 true (by rintro (e | e | ⟨_, e, _⟩ | ⟨e, _⟩); cases e; cases e; (have h1 := e.1; have h2 := e.2; omega); cases e))
  rw [hn.out]
  rcases ha with ha | ha
  · have h1 : ¬ 0 ≤ a := by omega
    go_enter Tryz.func14, Tryz.ntmps14
    go_wp2
    all_goals go_ret
    all_goals exact ⟨rfl, Below.al _ _⟩
  · have h0 : 0 ≤ a := by omega
    have h1 : ¬ a < 1073741824 := by omega
    go_enter Tryz.func14, Tryz.ntmps14
    go_wp2
    all_goals go_ret
    all_goals exact ⟨rfl, Below.al _ _⟩
set_option maxRecDepth 100000 in
theorem nameM_3true (a : Int) (ha0 : 0 ≤ a) (ha1 : a < 1073741824) (w : World) (ht : Tab w) :
    Calls Tryz.prog 14 #[.agg #[.int .i64 3, .int .i64 a, .int .i64 0, .bool true]] w fun e w' => e = .returned (.string ⟨(nameN ⟨3, a, 0, true⟩).toArray⟩) ∧ Below w.heap.size w w' := by
  have hx0 := Box.new w 30 #[.int .i64 3, .int .i64 a, .int .i64 0, .bool true]
  have ha := Below.al w (.cells #[.int .i64 3, .int .i64 a, .int .i64 0, .bool true] 30)
  have HX := Lib.hid (And.intro hx0 ha)
  have ht' := Lib.hid (tab_below ht ha)
  have hb : baseN ⟨3, a, 0, true⟩ = 116 :: (Lib.decDigits a.toNat ++ 46 :: manBA) := by
    rw [base_piece, if_neg (by decide), if_neg (by decide), if_pos rfl, if_pos ⟨⟨by omega, by omega⟩, rfl⟩]
    rfl
  have hn := name_base 3 a 0 true hb
  rw [if_neg (by simp)] at hn
  have hfin : (⟨(nameN ⟨3, a, 0, true⟩).toArray⟩ : ByteArray) = ByteArray.mk #[116] ++ ⟨(Lib.decDigits a.toNat).toArray⟩ ++ ByteArray.mk #[46, 109, 97, 110] ++ ByteArray.mk #[46, 116, 109, 112] := by
    rw [hn]
    apply ByteArray.ext
    simp [manBA, tmpB]
  have HFN := Lib.hid hfin
  have lu : (Lib.decDigits a.toNat).length ≤ 1073741824 := by have := dig_len a.toNat; omega
  have HV := Lib.hid (And.intro ha0 ha1)
  have HL := Lib.hid lu
  have hne3 : ¬ (ByteArray.mk #[116] ++ ⟨(Lib.decDigits a.toNat).toArray⟩ ++ ByteArray.mk #[46, 109, 97, 110]) = ByteArray.mk #[] := fun e => by
    have := congrArg ByteArray.size e
    rw [ByteArray.size_append, ByteArray.size_append] at this
    have h5 : (ByteArray.mk #[46, 109, 97, 110]).size = 4 := rfl
    have h6 : (ByteArray.mk #[]).size = 0 := rfl
    omega
  have HN := Lib.hid hne3
  clear ht hx0 ha hb hn hfin hne3 lu
  go_enter Tryz.func14, Tryz.ntmps14
  go_upto_region 9 with go_in
  have lu := HL.out
  go_upto_region 12 with (first
    | (go_at_call 35
       refine (itoa_int a HV.out.1 HV.out.2 _ (tab_heap ht'.out rfl)).mono ?_
       rintro e w1 ⟨rfl, hb1⟩
       have hxc := ((show Box _ w.heap.size _ _ from HX.out.1).next hb1).cell
       have B1 := Lib.hid hb1
       clear hb1)
    | go_in)
  obtain ⟨P, hP⟩ : ∃ P : ByteArray, ByteArray.mk #[116] ++ ⟨(Lib.decDigits a.toNat).toArray⟩ ++ ByteArray.mk #[46, 109, 97, 110] = P := ⟨_, rfl⟩
  have hPz : P.size ≤ 1073741832 := by
    rw [← hP, ByteArray.size_append, ByteArray.size_append]
    have h4 : (ByteArray.mk #[116]).size = 1 := rfl
    have h5 : (ByteArray.mk #[46, 109, 97, 110]).size = 4 := rfl
    have h6 : (ByteArray.mk (Lib.decDigits a.toNat).toArray).size = (Lib.decDigits a.toNat).length := by show (Lib.decDigits a.toNat).toArray.size = _; simp
    omega
  have q1 : ¬ 9223372036854775807 < P.size + 4 := by omega
  have hne3 : ¬ P = ByteArray.mk #[] := by rw [← hP]; exact HN.out
  have hne := key_neN hne3
  have hne2 : (P.toList == []) = false := by
    rw [beq_eq_false_iff_ne]
    intro e
    rw [ByteArray.toList_eq] at e
    exact hne3 (WideShapes.bytes_inj e)
  have HPP := Lib.hid hP
  rw [hP] at HFN ⊢
  clear hP hPz lu
  go_wp2
  go_ret
  exact ⟨by rw [HFN.out]; rfl, (show Below w.heap.size w _ from ⟨HX.out.2.os, HX.out.2.tape, HX.out.2.output, HX.out.2.size, HX.out.2.block⟩).trans (B1.out.mono HX.out.2.size)⟩
theorem nameM_any (k id seg : Int) (t : Bool) (w : World) (ht : Tab w) :
    Calls Tryz.prog 14 #[.agg #[.int .i64 k, .int .i64 id, .int .i64 seg, .bool t]] w fun e w' => e = .returned (.string ⟨(nameN ⟨k, id, seg, t⟩).toArray⟩) ∧ Below w.heap.size w w' := by
  rcases (show k < 1 ∨ 4 < k ∨ k = 1 ∨ k = 2 ∨ k = 3 ∨ k = 4 by omega) with h | h | rfl | rfl | rfl | rfl
  · exact nameM_lo k id seg t w h
  · exact nameM_hi k id seg t w h
  · exact nameM_1 id seg t w ht
  · exact nameM_2 id seg t w ht
  · by_cases hs : seg = 0
    · subst hs
      by_cases hi : 0 ≤ id ∧ id < 1073741824
      · cases t with
        | false => exact nameM_3false id hi.1 hi.2 w ht
        | true => exact nameM_3true id hi.1 hi.2 w ht
      · cases t with
        | false => exact nameM_3bfalse id w (by omega)
        | true => exact nameM_3btrue id w (by omega)
    · exact nameM_3seg id seg t w hs
  · by_cases hc : id = 0 ∧ seg = 0
    · obtain ⟨rfl, rfl⟩ := hc
      cases t with
      | false => exact nameM_4false w
      | true => exact nameM_4true w
    · exact nameM_4id id seg t w hc
end Go.Proofs.YtdeaefbjddodjaaGreatDoor
