import Derived.Test.YtbmbgkgjlnookaaDoorNq5
/- ManifestNames: the document's Name. -/
namespace Go.Proofs.YtbmbgkgjlnookaaDoor
open Go.Shelf Go.RowKit

theorem decimal_int (a : Int) (h0 : 0 ≤ a) (h1 : a < 1073741824) (w : World) :
    Calls Tryd.prog 26 #[.int .i64 a] w fun e w' => e = .returned (.string ⟨(Lib.decDigits a.toNat).toArray⟩) ∧ Below w.heap.size w w' := by
  obtain ⟨u, rfl⟩ : ∃ u : Nat, a = u := ⟨a.toNat, by omega⟩
  rw [Int.toNat_natCast]
  exact decimal7 u (by omega) w
theorem dec_size (a : Int) (h : a < 1073741824) : (⟨(Lib.decDigits a.toNat).toArray⟩ : ByteArray).size ≤ 1073741824 := by
  show (Lib.decDigits a.toNat).toArray.size ≤ _
  have := dig_len a.toNat
  simp
  omega
theorem piece_goodI (suf : List UInt8) (a b : Int) (h1 : 0 ≤ a) (h2 : a < 1073741824) (h3 : 1 ≤ b) (h4 : b < 1073741824) :
    (⟨(pieceN suf a b).toArray⟩ : ByteArray) = ByteArray.mk #[116] ++ ⟨(Lib.decDigits a.toNat).toArray⟩ ++ ByteArray.mk #[46] ++ ⟨(Lib.decDigits b.toNat).toArray⟩ ++ ⟨suf.toArray⟩ := by
  unfold pieceN okId okSeg dec
  rw [if_pos ⟨⟨h1, h2⟩, h3, h4⟩]
  apply ByteArray.ext
  simp
set_option maxRecDepth 100000 in
theorem nameR_1false (a b : Int) (w : World) (ha0 : 0 ≤ a) (ha1 : a < 1073741824) (hb0 : 1 ≤ b) (hb1 : b < 1073741824) :
    Calls Tryd.prog 6 #[.agg #[.int .i64 1, .int .i64 a, .int .i64 b, .bool false]] w fun e w' => e = .returned (.string ⟨(nameN ⟨1, a, b, false⟩).toArray⟩) ∧ Below w.heap.size w w' := by
  have hx0 := Box.new w 23 #[.int .i64 1, .int .i64 a, .int .i64 b, .bool false]
  have ha := Below.al w (.cells #[.int .i64 1, .int .i64 a, .int .i64 b, .bool false] 23)
  have HX := Lib.hid (And.intro hx0 ha)
  have HV := Lib.hid (And.intro ha0 (And.intro ha1 (And.intro hb0 hb1)))
  have hb2 : 0 ≤ b := by omega
  have hbp : baseN ⟨1, a, b, false⟩ = pieceN (46 :: segB) a b := by rw [base_piece]; rfl
  have hpg := piece_goodI (46 :: segB) a b ha0 ha1 hb0 hb1
  have hpn : pieceN (46 :: segB) a b ≠ [] := by unfold pieceN okId okSeg; rw [if_pos ⟨⟨ha0, ha1⟩, hb0, hb1⟩]; simp
  have hnm := name_base 1 a b false hbp
  rw [if_neg hpn] at hnm
  have HN := Lib.hid (And.intro hnm hpg)
  clear hx0 ha hbp hpg hpn hnm
  go_enter Tryd.func6, Tryd.ntmps6
  go_upto_region 6 with go_in
  have hs : (w.alloc (.cells #[.int .i64 1, .int .i64 a, .int .i64 b, .bool false] 23)).drew.cell? ⟨w.heap.size, 1, none⟩ = some (.int .i64 a) ∧ (w.alloc (.cells #[.int .i64 1, .int .i64 a, .int .i64 b, .bool false] 23)).drew.cell? ⟨w.heap.size, 2, none⟩ = some (.int .i64 b) := ⟨HX.out.1.cell 1, HX.out.1.cell 2⟩
  have HD := Lib.hid (show Below (w.alloc (.cells #[.int .i64 1, .int .i64 a, .int .i64 b, .bool false] 23)).heap.size (w.alloc (.cells #[.int .i64 1, .int .i64 a, .int .i64 b, .bool false] 23)) (w.alloc (.cells #[.int .i64 1, .int .i64 a, .int .i64 b, .bool false] 23)).drew from ⟨rfl, rfl, rfl, Nat.le_refl _, fun _ _ => rfl⟩)
  obtain ⟨su, hsu⟩ : ∃ su : ByteArray, (⟨(Lib.decDigits a.toNat).toArray⟩ : ByteArray) = su := ⟨_, rfl⟩
  obtain ⟨sv, hsv⟩ : ∃ sv : ByteArray, (⟨(Lib.decDigits b.toNat).toArray⟩ : ByteArray) = sv := ⟨_, rfl⟩
  have zu : su.size ≤ 1073741824 := by rw [← hsu]; exact dec_size a HV.out.2.1
  have zv : sv.size ≤ 1073741824 := by rw [← hsv]; exact dec_size b HV.out.2.2.2
  rw [hsu, hsv] at HN
  have HU := Lib.hid (And.intro hsu hsv)
  have q1 : ¬ 9223372036854775807 < 1 + su.size := by omega
  have q2 : ¬ 9223372036854775807 < 1 + su.size + 1 := by omega
  have q3 : ¬ 9223372036854775807 < 1 + su.size + 1 + sv.size := by omega
  have q4 : ¬ 9223372036854775807 < 1 + su.size + 1 + sv.size + 4 := by omega
  have q5 : ¬ 9223372036854775807 < (ByteArray.mk #[116] ++ su).size + 1 := by rw [ByteArray.size_append]; exact q2
  have q6 : ¬ 9223372036854775807 < (ByteArray.mk #[116] ++ su ++ ByteArray.mk #[46]).size + sv.size := by rw [ByteArray.size_append, ByteArray.size_append]; exact q3
  have q7 : ¬ 9223372036854775807 < (ByteArray.mk #[116] ++ su ++ ByteArray.mk #[46] ++ sv).size + 4 := by rw [ByteArray.size_append, ByteArray.size_append, ByteArray.size_append]; exact q4
  have HZ := Lib.hid (And.intro zu zv)
  clear hsu hsv zu zv
  have T0 := Lib.hid True.intro
  go_region_held3 (fun w' => w'.cell? ⟨w.heap.size, 1, none⟩ = some (.int .i64 a) ∧ w'.cell? ⟨w.heap.size, 2, none⟩ = some (.int .i64 b))
    (first | with_reducible exact hs)
    (first
      | (go_at_call 26
         have z0 := T0
         clear z0
         refine (decimal_int a HV.out.1 HV.out.2.1 _).mono ?_
         rintro e w1 ⟨rfl, hb1⟩
         rw [HU.out.1]
         have B1 := Lib.hid (HD.out.trans hb1)
         have hx1 := HX.out.1.next B1.out
         clear hs
         have hs : w1.cell? ⟨w.heap.size, 1, none⟩ = some (.int .i64 a) ∧ w1.cell? ⟨w.heap.size, 2, none⟩ = some (.int .i64 b) := ⟨hx1.cell 1, hx1.cell 2⟩
         clear hb1 T0 hx1)
      | (go_at_call 26
         refine (decimal_int b (by omega) HV.out.2.2.2 _).mono ?_
         rintro e w2 ⟨rfl, hb2⟩
         rw [HU.out.2]
         have hx1 := HX.out.1.next (B1.out.trans (hb2.mono B1.out.size))
         have hxc := hx1.cell
         clear hs
         have hs : w2.cell? ⟨w.heap.size, 1, none⟩ = some (.int .i64 a) ∧ w2.cell? ⟨w.heap.size, 2, none⟩ = some (.int .i64 b) := ⟨hx1.cell 1, hx1.cell 2⟩
         have B2 := Lib.hid hb2
         clear hb2 hx1))
  have q8 : ¬ 9223372036854775807 < (ByteArray.mk #[116] ++ su ++ ByteArray.mk #[46] ++ sv ++ ByteArray.mk #[46, 115, 101, 103]).size + 4 := by
    rw [ByteArray.size_append, ByteArray.size_append, ByteArray.size_append, ByteArray.size_append]
    have := HZ.out
    show ¬ 9223372036854775807 < 1 + su.size + 1 + sv.size + 4 + 4
    omega
  obtain ⟨P, hP⟩ : ∃ P : ByteArray, ByteArray.mk #[116] ++ su ++ ByteArray.mk #[46] ++ sv ++ ByteArray.mk #[46, 115, 101, 103] = P := ⟨_, rfl⟩
  rw [hP] at q8 ⊢
  have HP := Lib.hid hP
  clear hP q1 q2 q3 q4 q5 q6 q7
  go_wp2
  go_ret
  have B3 := B1.out.trans (B2.out.mono B1.out.size)
  refine ⟨?_, HX.out.2.trans (B3.mono HX.out.2.size)⟩
  have hpp : (⟨(pieceN (46 :: segB) a b).toArray⟩ : ByteArray) = P := HN.out.2.trans HP.out
  rw [HN.out.1]
  refine congrArg (fun x => Ending.returned (.string x)) ?_
  rw [← hpp]
  rfl
set_option maxRecDepth 100000 in
theorem nameR_1true (a b : Int) (w : World) (ha0 : 0 ≤ a) (ha1 : a < 1073741824) (hb0 : 1 ≤ b) (hb1 : b < 1073741824) :
    Calls Tryd.prog 6 #[.agg #[.int .i64 1, .int .i64 a, .int .i64 b, .bool true]] w fun e w' => e = .returned (.string ⟨(nameN ⟨1, a, b, true⟩).toArray⟩) ∧ Below w.heap.size w w' := by
  have hx0 := Box.new w 23 #[.int .i64 1, .int .i64 a, .int .i64 b, .bool true]
  have ha := Below.al w (.cells #[.int .i64 1, .int .i64 a, .int .i64 b, .bool true] 23)
  have HX := Lib.hid (And.intro hx0 ha)
  have HV := Lib.hid (And.intro ha0 (And.intro ha1 (And.intro hb0 hb1)))
  have hb2 : 0 ≤ b := by omega
  have hbp : baseN ⟨1, a, b, true⟩ = pieceN (46 :: segB) a b := by rw [base_piece]; rfl
  have hpg := piece_goodI (46 :: segB) a b ha0 ha1 hb0 hb1
  have hpn : pieceN (46 :: segB) a b ≠ [] := by unfold pieceN okId okSeg; rw [if_pos ⟨⟨ha0, ha1⟩, hb0, hb1⟩]; simp
  have hnm := name_base 1 a b true hbp
  rw [if_neg hpn] at hnm
  have HN := Lib.hid (And.intro hnm hpg)
  clear hx0 ha hbp hpg hpn hnm
  go_enter Tryd.func6, Tryd.ntmps6
  go_upto_region 6 with go_in
  have hs : (w.alloc (.cells #[.int .i64 1, .int .i64 a, .int .i64 b, .bool true] 23)).drew.cell? ⟨w.heap.size, 1, none⟩ = some (.int .i64 a) ∧ (w.alloc (.cells #[.int .i64 1, .int .i64 a, .int .i64 b, .bool true] 23)).drew.cell? ⟨w.heap.size, 2, none⟩ = some (.int .i64 b) := ⟨HX.out.1.cell 1, HX.out.1.cell 2⟩
  have HD := Lib.hid (show Below (w.alloc (.cells #[.int .i64 1, .int .i64 a, .int .i64 b, .bool true] 23)).heap.size (w.alloc (.cells #[.int .i64 1, .int .i64 a, .int .i64 b, .bool true] 23)) (w.alloc (.cells #[.int .i64 1, .int .i64 a, .int .i64 b, .bool true] 23)).drew from ⟨rfl, rfl, rfl, Nat.le_refl _, fun _ _ => rfl⟩)
  obtain ⟨su, hsu⟩ : ∃ su : ByteArray, (⟨(Lib.decDigits a.toNat).toArray⟩ : ByteArray) = su := ⟨_, rfl⟩
  obtain ⟨sv, hsv⟩ : ∃ sv : ByteArray, (⟨(Lib.decDigits b.toNat).toArray⟩ : ByteArray) = sv := ⟨_, rfl⟩
  have zu : su.size ≤ 1073741824 := by rw [← hsu]; exact dec_size a HV.out.2.1
  have zv : sv.size ≤ 1073741824 := by rw [← hsv]; exact dec_size b HV.out.2.2.2
  rw [hsu, hsv] at HN
  have HU := Lib.hid (And.intro hsu hsv)
  have q1 : ¬ 9223372036854775807 < 1 + su.size := by omega
  have q2 : ¬ 9223372036854775807 < 1 + su.size + 1 := by omega
  have q3 : ¬ 9223372036854775807 < 1 + su.size + 1 + sv.size := by omega
  have q4 : ¬ 9223372036854775807 < 1 + su.size + 1 + sv.size + 4 := by omega
  have q5 : ¬ 9223372036854775807 < (ByteArray.mk #[116] ++ su).size + 1 := by rw [ByteArray.size_append]; exact q2
  have q6 : ¬ 9223372036854775807 < (ByteArray.mk #[116] ++ su ++ ByteArray.mk #[46]).size + sv.size := by rw [ByteArray.size_append, ByteArray.size_append]; exact q3
  have q7 : ¬ 9223372036854775807 < (ByteArray.mk #[116] ++ su ++ ByteArray.mk #[46] ++ sv).size + 4 := by rw [ByteArray.size_append, ByteArray.size_append, ByteArray.size_append]; exact q4
  have HZ := Lib.hid (And.intro zu zv)
  clear hsu hsv zu zv
  have T0 := Lib.hid True.intro
  go_region_held3 (fun w' => w'.cell? ⟨w.heap.size, 1, none⟩ = some (.int .i64 a) ∧ w'.cell? ⟨w.heap.size, 2, none⟩ = some (.int .i64 b))
    (first | with_reducible exact hs)
    (first
      | (go_at_call 26
         have z0 := T0
         clear z0
         refine (decimal_int a HV.out.1 HV.out.2.1 _).mono ?_
         rintro e w1 ⟨rfl, hb1⟩
         rw [HU.out.1]
         have B1 := Lib.hid (HD.out.trans hb1)
         have hx1 := HX.out.1.next B1.out
         clear hs
         have hs : w1.cell? ⟨w.heap.size, 1, none⟩ = some (.int .i64 a) ∧ w1.cell? ⟨w.heap.size, 2, none⟩ = some (.int .i64 b) := ⟨hx1.cell 1, hx1.cell 2⟩
         clear hb1 T0 hx1)
      | (go_at_call 26
         refine (decimal_int b (by omega) HV.out.2.2.2 _).mono ?_
         rintro e w2 ⟨rfl, hb2⟩
         rw [HU.out.2]
         have hx1 := HX.out.1.next (B1.out.trans (hb2.mono B1.out.size))
         have hxc := hx1.cell
         clear hs
         have hs : w2.cell? ⟨w.heap.size, 1, none⟩ = some (.int .i64 a) ∧ w2.cell? ⟨w.heap.size, 2, none⟩ = some (.int .i64 b) := ⟨hx1.cell 1, hx1.cell 2⟩
         have B2 := Lib.hid hb2
         clear hb2 hx1))
  have q8 : ¬ 9223372036854775807 < (ByteArray.mk #[116] ++ su ++ ByteArray.mk #[46] ++ sv ++ ByteArray.mk #[46, 115, 101, 103]).size + 4 := by
    rw [ByteArray.size_append, ByteArray.size_append, ByteArray.size_append, ByteArray.size_append]
    have := HZ.out
    show ¬ 9223372036854775807 < 1 + su.size + 1 + sv.size + 4 + 4
    omega
  obtain ⟨P, hP⟩ : ∃ P : ByteArray, ByteArray.mk #[116] ++ su ++ ByteArray.mk #[46] ++ sv ++ ByteArray.mk #[46, 115, 101, 103] = P := ⟨_, rfl⟩
  rw [hP] at q8 ⊢
  have HP := Lib.hid hP
  clear hP q1 q2 q3 q4 q5 q6 q7
  go_wp2
  go_ret
  have B3 := B1.out.trans (B2.out.mono B1.out.size)
  refine ⟨?_, HX.out.2.trans (B3.mono HX.out.2.size)⟩
  have hpp : (⟨(pieceN (46 :: segB) a b).toArray⟩ : ByteArray) = P := HN.out.2.trans HP.out
  rw [HN.out.1]
  refine congrArg (fun x => Ending.returned (.string x)) ?_
  rw [← hpp]
  exact str_app _ tmpB
set_option maxRecDepth 100000 in
theorem nameR_2false (a b : Int) (w : World) (ha0 : 0 ≤ a) (ha1 : a < 1073741824) (hb0 : 1 ≤ b) (hb1 : b < 1073741824) :
    Calls Tryd.prog 6 #[.agg #[.int .i64 2, .int .i64 a, .int .i64 b, .bool false]] w fun e w' => e = .returned (.string ⟨(nameN ⟨2, a, b, false⟩).toArray⟩) ∧ Below w.heap.size w w' := by
  have hx0 := Box.new w 23 #[.int .i64 2, .int .i64 a, .int .i64 b, .bool false]
  have ha := Below.al w (.cells #[.int .i64 2, .int .i64 a, .int .i64 b, .bool false] 23)
  have HX := Lib.hid (And.intro hx0 ha)
  have HV := Lib.hid (And.intro ha0 (And.intro ha1 (And.intro hb0 hb1)))
  have hb2 : 0 ≤ b := by omega
  have hbp : baseN ⟨2, a, b, false⟩ = pieceN (46 :: hintB) a b := by rw [base_piece]; rfl
  have hpg := piece_goodI (46 :: hintB) a b ha0 ha1 hb0 hb1
  have hpn : pieceN (46 :: hintB) a b ≠ [] := by unfold pieceN okId okSeg; rw [if_pos ⟨⟨ha0, ha1⟩, hb0, hb1⟩]; simp
  have hnm := name_base 2 a b false hbp
  rw [if_neg hpn] at hnm
  have HN := Lib.hid (And.intro hnm hpg)
  clear hx0 ha hbp hpg hpn hnm
  go_enter Tryd.func6, Tryd.ntmps6
  go_upto_region 8 with go_in
  have hs : (w.alloc (.cells #[.int .i64 2, .int .i64 a, .int .i64 b, .bool false] 23)).drew.cell? ⟨w.heap.size, 1, none⟩ = some (.int .i64 a) ∧ (w.alloc (.cells #[.int .i64 2, .int .i64 a, .int .i64 b, .bool false] 23)).drew.cell? ⟨w.heap.size, 2, none⟩ = some (.int .i64 b) := ⟨HX.out.1.cell 1, HX.out.1.cell 2⟩
  have HD := Lib.hid (show Below (w.alloc (.cells #[.int .i64 2, .int .i64 a, .int .i64 b, .bool false] 23)).heap.size (w.alloc (.cells #[.int .i64 2, .int .i64 a, .int .i64 b, .bool false] 23)) (w.alloc (.cells #[.int .i64 2, .int .i64 a, .int .i64 b, .bool false] 23)).drew from ⟨rfl, rfl, rfl, Nat.le_refl _, fun _ _ => rfl⟩)
  obtain ⟨su, hsu⟩ : ∃ su : ByteArray, (⟨(Lib.decDigits a.toNat).toArray⟩ : ByteArray) = su := ⟨_, rfl⟩
  obtain ⟨sv, hsv⟩ : ∃ sv : ByteArray, (⟨(Lib.decDigits b.toNat).toArray⟩ : ByteArray) = sv := ⟨_, rfl⟩
  have zu : su.size ≤ 1073741824 := by rw [← hsu]; exact dec_size a HV.out.2.1
  have zv : sv.size ≤ 1073741824 := by rw [← hsv]; exact dec_size b HV.out.2.2.2
  rw [hsu, hsv] at HN
  have HU := Lib.hid (And.intro hsu hsv)
  have q1 : ¬ 9223372036854775807 < 1 + su.size := by omega
  have q2 : ¬ 9223372036854775807 < 1 + su.size + 1 := by omega
  have q3 : ¬ 9223372036854775807 < 1 + su.size + 1 + sv.size := by omega
  have q4 : ¬ 9223372036854775807 < 1 + su.size + 1 + sv.size + 5 := by omega
  have q5 : ¬ 9223372036854775807 < (ByteArray.mk #[116] ++ su).size + 1 := by rw [ByteArray.size_append]; exact q2
  have q6 : ¬ 9223372036854775807 < (ByteArray.mk #[116] ++ su ++ ByteArray.mk #[46]).size + sv.size := by rw [ByteArray.size_append, ByteArray.size_append]; exact q3
  have q7 : ¬ 9223372036854775807 < (ByteArray.mk #[116] ++ su ++ ByteArray.mk #[46] ++ sv).size + 5 := by rw [ByteArray.size_append, ByteArray.size_append, ByteArray.size_append]; exact q4
  have HZ := Lib.hid (And.intro zu zv)
  clear hsu hsv zu zv
  have T0 := Lib.hid True.intro
  go_region_held3 (fun w' => w'.cell? ⟨w.heap.size, 1, none⟩ = some (.int .i64 a) ∧ w'.cell? ⟨w.heap.size, 2, none⟩ = some (.int .i64 b))
    (first | with_reducible exact hs)
    (first
      | (go_at_call 26
         have z0 := T0
         clear z0
         refine (decimal_int a HV.out.1 HV.out.2.1 _).mono ?_
         rintro e w1 ⟨rfl, hb1⟩
         rw [HU.out.1]
         have B1 := Lib.hid (HD.out.trans hb1)
         have hx1 := HX.out.1.next B1.out
         clear hs
         have hs : w1.cell? ⟨w.heap.size, 1, none⟩ = some (.int .i64 a) ∧ w1.cell? ⟨w.heap.size, 2, none⟩ = some (.int .i64 b) := ⟨hx1.cell 1, hx1.cell 2⟩
         clear hb1 T0 hx1)
      | (go_at_call 26
         refine (decimal_int b (by omega) HV.out.2.2.2 _).mono ?_
         rintro e w2 ⟨rfl, hb2⟩
         rw [HU.out.2]
         have hx1 := HX.out.1.next (B1.out.trans (hb2.mono B1.out.size))
         have hxc := hx1.cell
         clear hs
         have hs : w2.cell? ⟨w.heap.size, 1, none⟩ = some (.int .i64 a) ∧ w2.cell? ⟨w.heap.size, 2, none⟩ = some (.int .i64 b) := ⟨hx1.cell 1, hx1.cell 2⟩
         have B2 := Lib.hid hb2
         clear hb2 hx1))
  have q8 : ¬ 9223372036854775807 < (ByteArray.mk #[116] ++ su ++ ByteArray.mk #[46] ++ sv ++ ByteArray.mk #[46, 104, 105, 110, 116]).size + 4 := by
    rw [ByteArray.size_append, ByteArray.size_append, ByteArray.size_append, ByteArray.size_append]
    have := HZ.out
    show ¬ 9223372036854775807 < 1 + su.size + 1 + sv.size + 5 + 4
    omega
  obtain ⟨P, hP⟩ : ∃ P : ByteArray, ByteArray.mk #[116] ++ su ++ ByteArray.mk #[46] ++ sv ++ ByteArray.mk #[46, 104, 105, 110, 116] = P := ⟨_, rfl⟩
  rw [hP] at q8 ⊢
  have HP := Lib.hid hP
  clear hP q1 q2 q3 q4 q5 q6 q7
  go_wp2
  go_ret
  have B3 := B1.out.trans (B2.out.mono B1.out.size)
  refine ⟨?_, HX.out.2.trans (B3.mono HX.out.2.size)⟩
  have hpp : (⟨(pieceN (46 :: hintB) a b).toArray⟩ : ByteArray) = P := HN.out.2.trans HP.out
  rw [HN.out.1]
  refine congrArg (fun x => Ending.returned (.string x)) ?_
  rw [← hpp]
  rfl
set_option maxRecDepth 100000 in
theorem nameR_2true (a b : Int) (w : World) (ha0 : 0 ≤ a) (ha1 : a < 1073741824) (hb0 : 1 ≤ b) (hb1 : b < 1073741824) :
    Calls Tryd.prog 6 #[.agg #[.int .i64 2, .int .i64 a, .int .i64 b, .bool true]] w fun e w' => e = .returned (.string ⟨(nameN ⟨2, a, b, true⟩).toArray⟩) ∧ Below w.heap.size w w' := by
  have hx0 := Box.new w 23 #[.int .i64 2, .int .i64 a, .int .i64 b, .bool true]
  have ha := Below.al w (.cells #[.int .i64 2, .int .i64 a, .int .i64 b, .bool true] 23)
  have HX := Lib.hid (And.intro hx0 ha)
  have HV := Lib.hid (And.intro ha0 (And.intro ha1 (And.intro hb0 hb1)))
  have hb2 : 0 ≤ b := by omega
  have hbp : baseN ⟨2, a, b, true⟩ = pieceN (46 :: hintB) a b := by rw [base_piece]; rfl
  have hpg := piece_goodI (46 :: hintB) a b ha0 ha1 hb0 hb1
  have hpn : pieceN (46 :: hintB) a b ≠ [] := by unfold pieceN okId okSeg; rw [if_pos ⟨⟨ha0, ha1⟩, hb0, hb1⟩]; simp
  have hnm := name_base 2 a b true hbp
  rw [if_neg hpn] at hnm
  have HN := Lib.hid (And.intro hnm hpg)
  clear hx0 ha hbp hpg hpn hnm
  go_enter Tryd.func6, Tryd.ntmps6
  go_upto_region 8 with go_in
  have hs : (w.alloc (.cells #[.int .i64 2, .int .i64 a, .int .i64 b, .bool true] 23)).drew.cell? ⟨w.heap.size, 1, none⟩ = some (.int .i64 a) ∧ (w.alloc (.cells #[.int .i64 2, .int .i64 a, .int .i64 b, .bool true] 23)).drew.cell? ⟨w.heap.size, 2, none⟩ = some (.int .i64 b) := ⟨HX.out.1.cell 1, HX.out.1.cell 2⟩
  have HD := Lib.hid (show Below (w.alloc (.cells #[.int .i64 2, .int .i64 a, .int .i64 b, .bool true] 23)).heap.size (w.alloc (.cells #[.int .i64 2, .int .i64 a, .int .i64 b, .bool true] 23)) (w.alloc (.cells #[.int .i64 2, .int .i64 a, .int .i64 b, .bool true] 23)).drew from ⟨rfl, rfl, rfl, Nat.le_refl _, fun _ _ => rfl⟩)
  obtain ⟨su, hsu⟩ : ∃ su : ByteArray, (⟨(Lib.decDigits a.toNat).toArray⟩ : ByteArray) = su := ⟨_, rfl⟩
  obtain ⟨sv, hsv⟩ : ∃ sv : ByteArray, (⟨(Lib.decDigits b.toNat).toArray⟩ : ByteArray) = sv := ⟨_, rfl⟩
  have zu : su.size ≤ 1073741824 := by rw [← hsu]; exact dec_size a HV.out.2.1
  have zv : sv.size ≤ 1073741824 := by rw [← hsv]; exact dec_size b HV.out.2.2.2
  rw [hsu, hsv] at HN
  have HU := Lib.hid (And.intro hsu hsv)
  have q1 : ¬ 9223372036854775807 < 1 + su.size := by omega
  have q2 : ¬ 9223372036854775807 < 1 + su.size + 1 := by omega
  have q3 : ¬ 9223372036854775807 < 1 + su.size + 1 + sv.size := by omega
  have q4 : ¬ 9223372036854775807 < 1 + su.size + 1 + sv.size + 5 := by omega
  have q5 : ¬ 9223372036854775807 < (ByteArray.mk #[116] ++ su).size + 1 := by rw [ByteArray.size_append]; exact q2
  have q6 : ¬ 9223372036854775807 < (ByteArray.mk #[116] ++ su ++ ByteArray.mk #[46]).size + sv.size := by rw [ByteArray.size_append, ByteArray.size_append]; exact q3
  have q7 : ¬ 9223372036854775807 < (ByteArray.mk #[116] ++ su ++ ByteArray.mk #[46] ++ sv).size + 5 := by rw [ByteArray.size_append, ByteArray.size_append, ByteArray.size_append]; exact q4
  have HZ := Lib.hid (And.intro zu zv)
  clear hsu hsv zu zv
  have T0 := Lib.hid True.intro
  go_region_held3 (fun w' => w'.cell? ⟨w.heap.size, 1, none⟩ = some (.int .i64 a) ∧ w'.cell? ⟨w.heap.size, 2, none⟩ = some (.int .i64 b))
    (first | with_reducible exact hs)
    (first
      | (go_at_call 26
         have z0 := T0
         clear z0
         refine (decimal_int a HV.out.1 HV.out.2.1 _).mono ?_
         rintro e w1 ⟨rfl, hb1⟩
         rw [HU.out.1]
         have B1 := Lib.hid (HD.out.trans hb1)
         have hx1 := HX.out.1.next B1.out
         clear hs
         have hs : w1.cell? ⟨w.heap.size, 1, none⟩ = some (.int .i64 a) ∧ w1.cell? ⟨w.heap.size, 2, none⟩ = some (.int .i64 b) := ⟨hx1.cell 1, hx1.cell 2⟩
         clear hb1 T0 hx1)
      | (go_at_call 26
         refine (decimal_int b (by omega) HV.out.2.2.2 _).mono ?_
         rintro e w2 ⟨rfl, hb2⟩
         rw [HU.out.2]
         have hx1 := HX.out.1.next (B1.out.trans (hb2.mono B1.out.size))
         have hxc := hx1.cell
         clear hs
         have hs : w2.cell? ⟨w.heap.size, 1, none⟩ = some (.int .i64 a) ∧ w2.cell? ⟨w.heap.size, 2, none⟩ = some (.int .i64 b) := ⟨hx1.cell 1, hx1.cell 2⟩
         have B2 := Lib.hid hb2
         clear hb2 hx1))
  have q8 : ¬ 9223372036854775807 < (ByteArray.mk #[116] ++ su ++ ByteArray.mk #[46] ++ sv ++ ByteArray.mk #[46, 104, 105, 110, 116]).size + 4 := by
    rw [ByteArray.size_append, ByteArray.size_append, ByteArray.size_append, ByteArray.size_append]
    have := HZ.out
    show ¬ 9223372036854775807 < 1 + su.size + 1 + sv.size + 5 + 4
    omega
  obtain ⟨P, hP⟩ : ∃ P : ByteArray, ByteArray.mk #[116] ++ su ++ ByteArray.mk #[46] ++ sv ++ ByteArray.mk #[46, 104, 105, 110, 116] = P := ⟨_, rfl⟩
  rw [hP] at q8 ⊢
  have HP := Lib.hid hP
  clear hP q1 q2 q3 q4 q5 q6 q7
  go_wp2
  go_ret
  have B3 := B1.out.trans (B2.out.mono B1.out.size)
  refine ⟨?_, HX.out.2.trans (B3.mono HX.out.2.size)⟩
  have hpp : (⟨(pieceN (46 :: hintB) a b).toArray⟩ : ByteArray) = P := HN.out.2.trans HP.out
  rw [HN.out.1]
  refine congrArg (fun x => Ending.returned (.string x)) ?_
  rw [← hpp]
  exact str_app _ tmpB
end Go.Proofs.YtbmbgkgjlnookaaDoor
