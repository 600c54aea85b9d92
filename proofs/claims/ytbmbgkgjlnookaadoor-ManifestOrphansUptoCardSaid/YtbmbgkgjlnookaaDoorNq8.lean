import Derived.Test.YtbmbgkgjlnookaaDoorNq7
/- ManifestNames: the document's Name, the other ways; joined. -/
namespace Go.Proofs.YtbmbgkgjlnookaaDoor
open Go.Shelf Go.RowKit

theorem name_bad1 (a b : Int) (t : Bool) (h : ¬ (0 ≤ a ∧ a < 1073741824) ∨ ¬ (1 ≤ b ∧ b < 1073741824)) : nameN ⟨1, a, b, t⟩ = [] := by
  have h1 : baseN ⟨1, a, b, t⟩ = pieceN (46 :: segB) a b := by rw [base_piece]; rfl
  rw [piece_bad h] at h1
  unfold nameN
  rw [if_pos h1]
set_option maxRecDepth 100000 in
theorem nameR_b1 (a b : Int) (t : Bool) (w : World) (h : ¬ (0 ≤ a ∧ a < 1073741824) ∨ ¬ (1 ≤ b ∧ b < 1073741824)) :
    Calls Tryd.prog 6 #[.agg #[.int .i64 1, .int .i64 a, .int .i64 b, .bool t]] w fun e w' => e = .returned (.string ⟨(nameN ⟨1, a, b, t⟩).toArray⟩) ∧ Below w.heap.size w w' := by
  have hn := Lib.hid (name_bad1 a b t h)
  rw [hn.out]
  rcases (show a < 0 ∨ (0 ≤ a ∧ 1073741824 ≤ a) ∨ (0 ≤ a ∧ a < 1073741824 ∧ b < 1) ∨ (0 ≤ a ∧ a < 1073741824 ∧ 1 ≤ b ∧ 1073741824 ≤ b) by omega) with h1 | ⟨h0, h1⟩ | ⟨h0, h1, h2⟩ | ⟨h0, h1, h2, h3⟩
  · have g0 : ¬ 0 ≤ a := by omega
    clear h h1
    go_enter Tryd.func6, Tryd.ntmps6
    go_wp2_with fail
    all_goals go_ret
    all_goals exact ⟨rfl, Below.al _ _⟩
  · have g1 : ¬ a < 1073741824 := by omega
    clear h h1
    go_enter Tryd.func6, Tryd.ntmps6
    go_wp2_with fail
    all_goals go_ret
    all_goals exact ⟨rfl, Below.al _ _⟩
  · have g1 : ¬ 1 ≤ b := by omega
    clear h h2
    go_enter Tryd.func6, Tryd.ntmps6
    go_wp2_with fail
    all_goals go_ret
    all_goals exact ⟨rfl, Below.al _ _⟩
  · have g1 : ¬ b < 1073741824 := by omega
    clear h h3
    go_enter Tryd.func6, Tryd.ntmps6
    go_wp2_with fail
    all_goals go_ret
    all_goals exact ⟨rfl, Below.al _ _⟩
theorem name_bad2 (a b : Int) (t : Bool) (h : ¬ (0 ≤ a ∧ a < 1073741824) ∨ ¬ (1 ≤ b ∧ b < 1073741824)) : nameN ⟨2, a, b, t⟩ = [] := by
  have h1 : baseN ⟨2, a, b, t⟩ = pieceN (46 :: hintB) a b := by rw [base_piece]; rfl
  rw [piece_bad h] at h1
  unfold nameN
  rw [if_pos h1]
set_option maxRecDepth 100000 in
theorem nameR_b2 (a b : Int) (t : Bool) (w : World) (h : ¬ (0 ≤ a ∧ a < 1073741824) ∨ ¬ (1 ≤ b ∧ b < 1073741824)) :
    Calls Tryd.prog 6 #[.agg #[.int .i64 2, .int .i64 a, .int .i64 b, .bool t]] w fun e w' => e = .returned (.string ⟨(nameN ⟨2, a, b, t⟩).toArray⟩) ∧ Below w.heap.size w w' := by
  have hn := Lib.hid (name_bad2 a b t h)
  rw [hn.out]
  rcases (show a < 0 ∨ (0 ≤ a ∧ 1073741824 ≤ a) ∨ (0 ≤ a ∧ a < 1073741824 ∧ b < 1) ∨ (0 ≤ a ∧ a < 1073741824 ∧ 1 ≤ b ∧ 1073741824 ≤ b) by omega) with h1 | ⟨h0, h1⟩ | ⟨h0, h1, h2⟩ | ⟨h0, h1, h2, h3⟩
  · have g0 : ¬ 0 ≤ a := by omega
    clear h h1
    go_enter Tryd.func6, Tryd.ntmps6
    go_wp2_with fail
    all_goals go_ret
    all_goals exact ⟨rfl, Below.al _ _⟩
  · have g1 : ¬ a < 1073741824 := by omega
    clear h h1
    go_enter Tryd.func6, Tryd.ntmps6
    go_wp2_with fail
    all_goals go_ret
    all_goals exact ⟨rfl, Below.al _ _⟩
  · have g1 : ¬ 1 ≤ b := by omega
    clear h h2
    go_enter Tryd.func6, Tryd.ntmps6
    go_wp2_with fail
    all_goals go_ret
    all_goals exact ⟨rfl, Below.al _ _⟩
  · have g1 : ¬ b < 1073741824 := by omega
    clear h h3
    go_enter Tryd.func6, Tryd.ntmps6
    go_wp2_with fail
    all_goals go_ret
    all_goals exact ⟨rfl, Below.al _ _⟩
set_option maxRecDepth 100000 in
theorem nameR_4a (a b : Int) (t : Bool) (w : World) (ha : ¬ a = 0) :
    Calls Tryd.prog 6 #[.agg #[.int .i64 4, .int .i64 a, .int .i64 b, .bool t]] w fun e w' => e = .returned (.string ⟨(nameN ⟨4, a, b, t⟩).toArray⟩) ∧ Below w.heap.size w w' := by
  have hn := Lib.hid (base_none 4 a b t (by rintro (e | e | ⟨e, _⟩ | ⟨_, e, _⟩); cases e; cases e; cases e; exact ha e))
  rw [hn.out]
  go_enter Tryd.func6, Tryd.ntmps6
  go_wp2_with fail
  all_goals go_ret
  all_goals exact ⟨rfl, Below.al _ _⟩
set_option maxRecDepth 100000 in
theorem nameR_4b (b : Int) (t : Bool) (w : World) (hb : ¬ b = 0) :
    Calls Tryd.prog 6 #[.agg #[.int .i64 4, .int .i64 0, .int .i64 b, .bool t]] w fun e w' => e = .returned (.string ⟨(nameN ⟨4, 0, b, t⟩).toArray⟩) ∧ Below w.heap.size w w' := by
  have hn := Lib.hid (base_none 4 0 b t (by rintro (e | e | ⟨e, _⟩ | ⟨_, _, e⟩); cases e; cases e; cases e; exact hb e))
  rw [hn.out]
  go_enter Tryd.func6, Tryd.ntmps6
  go_wp2_with fail
  all_goals go_ret
  all_goals exact ⟨rfl, Below.al _ _⟩
set_option maxRecDepth 100000 in
theorem nameR_4false (w : World) :
    Calls Tryd.prog 6 #[.agg #[.int .i64 4, .int .i64 0, .int .i64 0, .bool false]] w fun e w' => e = .returned (.string ⟨(nameN ⟨4, 0, 0, false⟩).toArray⟩) ∧ Below w.heap.size w w' := by
  have hn := Lib.hid (show nameN ⟨4, 0, 0, false⟩ = catB by decide)
  rw [hn.out]
  go_enter Tryd.func6, Tryd.ntmps6
  go_wp2_with fail
  all_goals go_ret
  all_goals exact ⟨rfl, Below.al _ _⟩
set_option maxRecDepth 100000 in
theorem nameR_3bfalse (a : Int) (w : World) (ha : a < 0 ∨ 1073741824 ≤ a) :
    Calls Tryd.prog 6 #[.agg #[.int .i64 3, .int .i64 a, .int .i64 0, .bool false]] w fun e w' => e = .returned (.string ⟨(nameN ⟨3, a, 0, false⟩).toArray⟩) ∧ Below w.heap.size w w' := by
  have hn := Lib.hid (base_none 3 a 0 false (by rintro (e | e | ⟨_, e, _⟩ | ⟨e, _⟩); cases e; cases e; (have h1 := e.1; have h2 := e.2; omega); cases e))
  rw [hn.out]
  rcases ha with ha | ha
  · have h1 : ¬ 0 ≤ a := by omega
    go_enter Tryd.func6, Tryd.ntmps6
    go_wp2_with fail
    all_goals go_ret
    all_goals exact ⟨rfl, Below.al _ _⟩
  · have h0 : 0 ≤ a := by omega
    have h1 : ¬ a < 1073741824 := by omega
    go_enter Tryd.func6, Tryd.ntmps6
    go_wp2_with fail
    all_goals go_ret
    all_goals exact ⟨rfl, Below.al _ _⟩
set_option maxRecDepth 100000 in
theorem nameR_3false (a : Int) (ha0 : 0 ≤ a) (ha1 : a < 1073741824) (w : World) :
    Calls Tryd.prog 6 #[.agg #[.int .i64 3, .int .i64 a, .int .i64 0, .bool false]] w fun e w' => e = .returned (.string ⟨(nameN ⟨3, a, 0, false⟩).toArray⟩) ∧ Below w.heap.size w w' := by
  have hx0 := Box.new w 23 #[.int .i64 3, .int .i64 a, .int .i64 0, .bool false]
  have ha := Below.al w (.cells #[.int .i64 3, .int .i64 a, .int .i64 0, .bool false] 23)
  have HX := Lib.hid (And.intro hx0 ha)
  have hb : baseN ⟨3, a, 0, false⟩ = 116 :: (Lib.decDigits a.toNat ++ 46 :: manB) := by
    rw [base_piece, if_neg (by decide), if_neg (by decide), if_pos rfl, if_pos ⟨⟨by omega, by omega⟩, rfl⟩]
    rfl
  have hn := name_base 3 a 0 false hb
  rw [if_neg (by simp)] at hn
  have hfin : (⟨(nameN ⟨3, a, 0, false⟩).toArray⟩ : ByteArray) = ByteArray.mk #[116] ++ ⟨(Lib.decDigits a.toNat).toArray⟩ ++ ByteArray.mk #[46, 109, 97, 110] := by
    rw [hn]
    apply ByteArray.ext
    simp [manB]
  have HFN := Lib.hid hfin
  have lu : (Lib.decDigits a.toNat).length ≤ 1073741824 := by have := dig_len a.toNat; omega
  have HV := Lib.hid (And.intro ha0 ha1)
  have HL := Lib.hid lu
  clear hx0 ha hb hn hfin lu
  go_enter Tryd.func6, Tryd.ntmps6
  go_upto_region 10 with go_in
  have lu := HL.out
  go_upto_region 12 with (first
    | (go_at_call 26
       refine (decimal_int a HV.out.1 HV.out.2 _).mono ?_
       rintro e w1 ⟨rfl, hb1⟩
       have hxc := ((show Box _ w.heap.size _ _ from HX.out.1).next hb1).cell
       have B1 := Lib.hid hb1
       clear hb1)
    | go_in)
  obtain ⟨P, hP⟩ : ∃ P : ByteArray, ByteArray.mk #[116] ++ ⟨(Lib.decDigits a.toNat).toArray⟩ ++ ByteArray.mk #[46, 109, 97, 110] = P := ⟨_, rfl⟩
  have hPz : P.size ≤ 1073741832 := by
    rw [← hP, ByteArray.size_append, ByteArray.size_append]
    have h4 : (ByteArray.mk #[116]).size = 1 := rfl
    have h5 : (ByteArray.mk #[46, 109, 97, 110]).size = 4 := rfl
    have h6 : (ByteArray.mk (Lib.decDigits a.toNat).toArray).size = (Lib.decDigits a.toNat).length := by show (Lib.decDigits a.toNat).toArray.size = _; simp
    omega
  have q1 : ¬ 9223372036854775807 < P.size + 4 := by omega
  have HPP := Lib.hid hP
  rw [hP] at HFN ⊢
  clear hP hPz lu
  go_wp2
  go_ret
  exact ⟨by rw [HFN.out]; rfl, (show Below w.heap.size w _ from ⟨HX.out.2.os, HX.out.2.tape, HX.out.2.output, HX.out.2.size, HX.out.2.block⟩).trans (B1.out.mono HX.out.2.size)⟩
set_option maxRecDepth 100000 in
theorem nameR_4true (w : World) :
    Calls Tryd.prog 6 #[.agg #[.int .i64 4, .int .i64 0, .int .i64 0, .bool true]] w fun e w' => e = .returned (.string ⟨(nameN ⟨4, 0, 0, true⟩).toArray⟩) ∧ Below w.heap.size w w' := by
  have hn := Lib.hid (show nameN ⟨4, 0, 0, true⟩ = catB ++ tmpB by decide)
  rw [hn.out]
  go_enter Tryd.func6, Tryd.ntmps6
  go_wp2_with fail
  all_goals go_ret
  all_goals exact ⟨rfl, Below.al _ _⟩
set_option maxRecDepth 100000 in
theorem nameR_3btrue (a : Int) (w : World) (ha : a < 0 ∨ 1073741824 ≤ a) :
    Calls Tryd.prog 6 #[.agg #[.int .i64 3, .int .i64 a, .int .i64 0, .bool true]] w fun e w' => e = .returned (.string ⟨(nameN ⟨3, a, 0, true⟩).toArray⟩) ∧ Below w.heap.size w w' := by
  have hn := Lib.hid (base_none 3 a 0 true (by rintro (e | e | ⟨_, e, _⟩ | ⟨e, _⟩); cases e; cases e; (have h1 := e.1; have h2 := e.2; omega); cases e))
  rw [hn.out]
  rcases ha with ha | ha
  · have h1 : ¬ 0 ≤ a := by omega
    go_enter Tryd.func6, Tryd.ntmps6
    go_wp2_with fail
    all_goals go_ret
    all_goals exact ⟨rfl, Below.al _ _⟩
  · have h0 : 0 ≤ a := by omega
    have h1 : ¬ a < 1073741824 := by omega
    go_enter Tryd.func6, Tryd.ntmps6
    go_wp2_with fail
    all_goals go_ret
    all_goals exact ⟨rfl, Below.al _ _⟩
set_option maxRecDepth 100000 in
theorem nameR_3true (a : Int) (ha0 : 0 ≤ a) (ha1 : a < 1073741824) (w : World) :
    Calls Tryd.prog 6 #[.agg #[.int .i64 3, .int .i64 a, .int .i64 0, .bool true]] w fun e w' => e = .returned (.string ⟨(nameN ⟨3, a, 0, true⟩).toArray⟩) ∧ Below w.heap.size w w' := by
  have hx0 := Box.new w 23 #[.int .i64 3, .int .i64 a, .int .i64 0, .bool true]
  have ha := Below.al w (.cells #[.int .i64 3, .int .i64 a, .int .i64 0, .bool true] 23)
  have HX := Lib.hid (And.intro hx0 ha)
  have hb : baseN ⟨3, a, 0, true⟩ = 116 :: (Lib.decDigits a.toNat ++ 46 :: manB) := by
    rw [base_piece, if_neg (by decide), if_neg (by decide), if_pos rfl, if_pos ⟨⟨by omega, by omega⟩, rfl⟩]
    rfl
  have hn := name_base 3 a 0 true hb
  rw [if_neg (by simp)] at hn
  have hfin : (⟨(nameN ⟨3, a, 0, true⟩).toArray⟩ : ByteArray) = ByteArray.mk #[116] ++ ⟨(Lib.decDigits a.toNat).toArray⟩ ++ ByteArray.mk #[46, 109, 97, 110] ++ ByteArray.mk #[46, 116, 109, 112] := by
    rw [hn]
    apply ByteArray.ext
    simp [manB, tmpB]
  have HFN := Lib.hid hfin
  have lu : (Lib.decDigits a.toNat).length ≤ 1073741824 := by have := dig_len a.toNat; omega
  have HV := Lib.hid (And.intro ha0 ha1)
  have HL := Lib.hid lu
  clear hx0 ha hb hn hfin lu
  go_enter Tryd.func6, Tryd.ntmps6
  go_upto_region 10 with go_in
  have lu := HL.out
  go_upto_region 12 with (first
    | (go_at_call 26
       refine (decimal_int a HV.out.1 HV.out.2 _).mono ?_
       rintro e w1 ⟨rfl, hb1⟩
       have hxc := ((show Box _ w.heap.size _ _ from HX.out.1).next hb1).cell
       have B1 := Lib.hid hb1
       clear hb1)
    | go_in)
  obtain ⟨P, hP⟩ : ∃ P : ByteArray, ByteArray.mk #[116] ++ ⟨(Lib.decDigits a.toNat).toArray⟩ ++ ByteArray.mk #[46, 109, 97, 110] = P := ⟨_, rfl⟩
  have hPz : P.size ≤ 1073741832 := by
    rw [← hP, ByteArray.size_append, ByteArray.size_append]
    have h4 : (ByteArray.mk #[116]).size = 1 := rfl
    have h5 : (ByteArray.mk #[46, 109, 97, 110]).size = 4 := rfl
    have h6 : (ByteArray.mk (Lib.decDigits a.toNat).toArray).size = (Lib.decDigits a.toNat).length := by show (Lib.decDigits a.toNat).toArray.size = _; simp
    omega
  have q1 : ¬ 9223372036854775807 < P.size + 4 := by omega
  have HPP := Lib.hid hP
  rw [hP] at HFN ⊢
  clear hP hPz lu
  go_wp2
  go_ret
  exact ⟨by rw [HFN.out]; rfl, (show Below w.heap.size w _ from ⟨HX.out.2.os, HX.out.2.tape, HX.out.2.output, HX.out.2.size, HX.out.2.block⟩).trans (B1.out.mono HX.out.2.size)⟩
theorem nameR_any (k id seg : Int) (t : Bool) (w : World) :
    Calls Tryd.prog 6 #[.agg #[.int .i64 k, .int .i64 id, .int .i64 seg, .bool t]] w fun e w' => e = .returned (.string ⟨(nameN ⟨k, id, seg, t⟩).toArray⟩) ∧ Below w.heap.size w w' := by
  rcases (show k < 1 ∨ 4 < k ∨ k = 1 ∨ k = 2 ∨ k = 3 ∨ k = 4 by omega) with h | h | rfl | rfl | rfl | rfl
  · exact nameR_lo k id seg t w h
  · exact nameR_hi k id seg t w h
  · by_cases hg : (0 ≤ id ∧ id < 1073741824) ∧ (1 ≤ seg ∧ seg < 1073741824)
    · cases t with
      | false => exact nameR_1false id seg w hg.1.1 hg.1.2 hg.2.1 hg.2.2
      | true => exact nameR_1true id seg w hg.1.1 hg.1.2 hg.2.1 hg.2.2
    · exact nameR_b1 id seg t w (by omega)
  · by_cases hg : (0 ≤ id ∧ id < 1073741824) ∧ (1 ≤ seg ∧ seg < 1073741824)
    · cases t with
      | false => exact nameR_2false id seg w hg.1.1 hg.1.2 hg.2.1 hg.2.2
      | true => exact nameR_2true id seg w hg.1.1 hg.1.2 hg.2.1 hg.2.2
    · exact nameR_b2 id seg t w (by omega)
  · by_cases hs : seg = 0
    · subst hs
      by_cases hi : 0 ≤ id ∧ id < 1073741824
      · cases t with
        | false => exact nameR_3false id hi.1 hi.2 w
        | true => exact nameR_3true id hi.1 hi.2 w
      · cases t with
        | false => exact nameR_3bfalse id w (by omega)
        | true => exact nameR_3btrue id w (by omega)
    · exact nameR_3seg id seg t w hs
  · by_cases hi : id = 0
    · subst hi
      by_cases hs : seg = 0
      · subst hs
        cases t with
        | false => exact nameR_4false w
        | true => exact nameR_4true w
      · exact nameR_4b seg t w hs
    · exact nameR_4a id seg t w hi
end Go.Proofs.YtbmbgkgjlnookaaDoor
