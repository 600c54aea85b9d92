import Derived.Test.YtbmbgkgjlnookaaDoorNq2
/- ManifestNames: manifest.Name. -/
namespace Go.Proofs.YtbmbgkgjlnookaaDoor
open Go.Shelf Go.RowKit

theorem base_piece (k id seg : Int) (t : Bool) : baseN ⟨k, id, seg, t⟩ = if k = 1 then pieceN (46 :: segB) id seg else if k = 2 then pieceN (46 :: hintB) id seg else if k = 3 then (if okId id ∧ seg = 0 then 116 :: (dec id ++ 46 :: manB) else []) else if k = 4 ∧ id = 0 ∧ seg = 0 then catB else [] := by
  unfold baseN pieceN
  simp only
  by_cases h1 : k = 1
  · subst h1
    simp only [true_and, if_true]
    split <;> simp
  · by_cases h2 : k = 2
    · subst h2
      simp [h1]
    · by_cases h3 : k = 3
      · subst h3; simp
      · simp [h1, h2, h3]
theorem name_base (k id seg : Int) (t : Bool) {b : List UInt8} (h : baseN ⟨k, id, seg, t⟩ = b) : nameN ⟨k, id, seg, t⟩ = if b = [] then [] else if t then b ++ tmpB else b := by
  unfold nameN; rw [h]
theorem piece_len (suf : List UInt8) (a b : Int) : (pieceN suf a b).length ≤ 2147483652 + suf.length := by
  unfold pieceN
  split
  · rename_i h
    have h1 := dig_len a.toNat
    have h2 := dig_len b.toNat
    have := h.1.2
    have := h.2.2
    simp [dec]
    omega
  · simp
theorem bytes_ne {l : List UInt8} (h : l ≠ []) : ((⟨l.toArray⟩ : ByteArray).toList == (ByteArray.mk #[]).toList) = false := by
  rw [ByteArray.toList_eq, ByteArray.toList_eq]
  cases l with
  | nil => exact absurd rfl h
  | cons a l => rfl
theorem bytes_ne2 {l : List UInt8} (h : l ≠ []) : ((⟨l.toArray⟩ : ByteArray).toList == []) = false := by
  rw [ByteArray.toList_eq]
  cases l with
  | nil => exact absurd rfl h
  | cons a l => rfl
theorem bytes_ne3 {l : List UInt8} (h : l ≠ []) : ¬ (⟨l.toArray⟩ : ByteArray) = ByteArray.mk #[] := fun e => h (by
  have := congrArg (fun x : ByteArray => x.data.toList) e
  simpa using this)
set_option maxRecDepth 100000 in
theorem nameM_1 (a b : Int) (t : Bool) (w : World) (ht : Tab w) :
    Calls Tryd.prog 5 #[.agg #[.int .i64 1, .int .i64 a, .int .i64 b, .bool t]] w fun e w' => e = .returned (.string ⟨(nameN ⟨1, a, b, t⟩).toArray⟩) ∧ Below w.heap.size w w' := by
  have hx0 := Box.new w 23 #[.int .i64 1, .int .i64 a, .int .i64 b, .bool t]
  have ha := Below.al w (.cells #[.int .i64 1, .int .i64 a, .int .i64 b, .bool t] 23)
  have HX := Lib.hid (And.intro hx0 ha)
  have ht' := Lib.hid (tab_below ht ha)
  have hbp : baseN ⟨1, a, b, t⟩ = pieceN (46 :: segB) a b := by rw [base_piece]; rfl
  have hnm := Lib.hid (name_base 1 a b t hbp)
  have hpl := piece_len (46 :: segB) a b
  have hz : (46 :: segB).length ≤ 100 := by decide
  obtain ⟨pl, hpl2⟩ : ∃ pl, pieceN (46 :: segB) a b = pl := ⟨_, rfl⟩
  rw [hpl2] at hnm hpl
  have HP := Lib.hid hpl2
  clear hpl2 hbp ht hx0 ha
  obtain ⟨P, hP⟩ : ∃ P : ByteArray, (⟨pl.toArray⟩ : ByteArray) = P := ⟨_, rfl⟩
  have hPz : P.size ≤ 2147483752 := by rw [← hP]; show pl.toArray.size ≤ _; simp; omega
  have q1 : ¬ 9223372036854775807 < P.size + 4 := by omega
  clear hPz hpl hz
  have HPP := Lib.hid hP
  by_cases he : pl = []
  · have hP0 : P = ByteArray.mk #[] := by rw [← hP, he]
    clear hP q1
    subst hP0
    have HE := Lib.hid he
    clear he
    go_enter Tryd.func5, Tryd.ntmps5
    go_wp2_with (first
      | (go_at_call 23
         refine (piece_any 1 a b t (46 :: segB) _ ht'.out (by decide)).mono ?_
         rintro e w1 ⟨rfl, hb1⟩
         rw [HP.out, HPP.out]
         have B1 := Lib.hid hb1
         have hxc := (HX.out.1.next hb1).cell
         clear hb1))
    go_ret
    exact ⟨by rw [hnm.out, if_pos HE.out]; rfl, HX.out.2.trans (B1.out.mono HX.out.2.size)⟩
  · have hne : (P.toList == (ByteArray.mk #[]).toList) = false := by rw [← hP]; exact bytes_ne he
    have hne2 : (P.toList == []) = false := by rw [← hP]; exact bytes_ne2 he
    have hne3 : ¬ P = ByteArray.mk #[] := by rw [← hP]; exact bytes_ne3 he
    have HE := Lib.hid he
    clear he hP
    cases t with
    | false =>
      go_enter Tryd.func5, Tryd.ntmps5
      go_wp2_with (first
        | (go_at_call 23
           refine (piece_any 1 a b false (46 :: segB) _ ht'.out (by decide)).mono ?_
           rintro e w1 ⟨rfl, hb1⟩
           rw [HP.out, HPP.out]
           have B1 := Lib.hid hb1
           have hxc := (HX.out.1.next hb1).cell
           clear hb1))
      go_ret
      exact ⟨by rw [hnm.out, if_neg HE.out]; exact congrArg (fun x => Ending.returned (.string x)) HPP.out.symm, HX.out.2.trans (B1.out.mono HX.out.2.size)⟩
    | true =>
      go_enter Tryd.func5, Tryd.ntmps5
      go_wp2_with (first
        | (go_at_call 23
           refine (piece_any 1 a b true (46 :: segB) _ ht'.out (by decide)).mono ?_
           rintro e w1 ⟨rfl, hb1⟩
           rw [HP.out, HPP.out]
           have B1 := Lib.hid hb1
           have hxc := (HX.out.1.next hb1).cell
           clear hb1))
      go_ret
      refine ⟨?_, HX.out.2.trans (B1.out.mono HX.out.2.size)⟩
      rw [hnm.out, if_neg HE.out]
      refine congrArg (fun x => Ending.returned (.string x)) ?_
      rw [← HPP.out]
      exact str_app pl tmpB
set_option maxRecDepth 100000 in
theorem nameM_2 (a b : Int) (t : Bool) (w : World) (ht : Tab w) :
    Calls Tryd.prog 5 #[.agg #[.int .i64 2, .int .i64 a, .int .i64 b, .bool t]] w fun e w' => e = .returned (.string ⟨(nameN ⟨2, a, b, t⟩).toArray⟩) ∧ Below w.heap.size w w' := by
  have hx0 := Box.new w 23 #[.int .i64 2, .int .i64 a, .int .i64 b, .bool t]
  have ha := Below.al w (.cells #[.int .i64 2, .int .i64 a, .int .i64 b, .bool t] 23)
  have HX := Lib.hid (And.intro hx0 ha)
  have ht' := Lib.hid (tab_below ht ha)
  have hbp : baseN ⟨2, a, b, t⟩ = pieceN (46 :: hintB) a b := by rw [base_piece]; rfl
  have hnm := Lib.hid (name_base 2 a b t hbp)
  have hpl := piece_len (46 :: hintB) a b
  have hz : (46 :: hintB).length ≤ 100 := by decide
  obtain ⟨pl, hpl2⟩ : ∃ pl, pieceN (46 :: hintB) a b = pl := ⟨_, rfl⟩
  rw [hpl2] at hnm hpl
  have HP := Lib.hid hpl2
  clear hpl2 hbp ht hx0 ha
  obtain ⟨P, hP⟩ : ∃ P : ByteArray, (⟨pl.toArray⟩ : ByteArray) = P := ⟨_, rfl⟩
  have hPz : P.size ≤ 2147483752 := by rw [← hP]; show pl.toArray.size ≤ _; simp; omega
  have q1 : ¬ 9223372036854775807 < P.size + 4 := by omega
  clear hPz hpl hz
  have HPP := Lib.hid hP
  by_cases he : pl = []
  · have hP0 : P = ByteArray.mk #[] := by rw [← hP, he]
    clear hP q1
    subst hP0
    have HE := Lib.hid he
    clear he
    go_enter Tryd.func5, Tryd.ntmps5
    go_wp2_with (first
      | (go_at_call 23
         refine (piece_any 2 a b t (46 :: hintB) _ ht'.out (by decide)).mono ?_
         rintro e w1 ⟨rfl, hb1⟩
         rw [HP.out, HPP.out]
         have B1 := Lib.hid hb1
         have hxc := (HX.out.1.next hb1).cell
         clear hb1))
    go_ret
    exact ⟨by rw [hnm.out, if_pos HE.out]; rfl, HX.out.2.trans (B1.out.mono HX.out.2.size)⟩
  · have hne : (P.toList == (ByteArray.mk #[]).toList) = false := by rw [← hP]; exact bytes_ne he
    have hne2 : (P.toList == []) = false := by rw [← hP]; exact bytes_ne2 he
    have hne3 : ¬ P = ByteArray.mk #[] := by rw [← hP]; exact bytes_ne3 he
    have HE := Lib.hid he
    clear he hP
    cases t with
    | false =>
      go_enter Tryd.func5, Tryd.ntmps5
      go_wp2_with (first
        | (go_at_call 23
           refine (piece_any 2 a b false (46 :: hintB) _ ht'.out (by decide)).mono ?_
           rintro e w1 ⟨rfl, hb1⟩
           rw [HP.out, HPP.out]
           have B1 := Lib.hid hb1
           have hxc := (HX.out.1.next hb1).cell
           clear hb1))
      go_ret
      exact ⟨by rw [hnm.out, if_neg HE.out]; exact congrArg (fun x => Ending.returned (.string x)) HPP.out.symm, HX.out.2.trans (B1.out.mono HX.out.2.size)⟩
    | true =>
      go_enter Tryd.func5, Tryd.ntmps5
      go_wp2_with (first
        | (go_at_call 23
           refine (piece_any 2 a b true (46 :: hintB) _ ht'.out (by decide)).mono ?_
           rintro e w1 ⟨rfl, hb1⟩
           rw [HP.out, HPP.out]
           have B1 := Lib.hid hb1
           have hxc := (HX.out.1.next hb1).cell
           clear hb1))
      go_ret
      refine ⟨?_, HX.out.2.trans (B1.out.mono HX.out.2.size)⟩
      rw [hnm.out, if_neg HE.out]
      refine congrArg (fun x => Ending.returned (.string x)) ?_
      rw [← HPP.out]
      exact str_app pl tmpB
end Go.Proofs.YtbmbgkgjlnookaaDoor
