import Derived.Test.YtbmbgkgjlnookaaDoorNq4
import Derived.WideShapes
/- ManifestNames: manifest.Name, manifests and the catalogue; joined. -/
namespace Go.Proofs.YtbmbgkgjlnookaaDoor
open Go.Shelf Go.RowKit

theorem itoa_int (a : Int) (h0 : 0 ≤ a) (h1 : a < 1073741824) (w : World) (h : Tab w) :
    Calls Tryd.prog 25 #[.int .i64 a] w fun e w' => e = .returned (.string ⟨(Lib.decDigits a.toNat).toArray⟩) ∧ Below w.heap.size w w' := by
  obtain ⟨u, rfl⟩ : ∃ u : Nat, a = u := ⟨a.toNat, by omega⟩
  rw [Int.toNat_natCast]
  exact itoa_call u (by omega) w h
theorem tab_heap {w w' : World} (h : Tab w) (e : w'.heap = w.heap) : Tab w' := by
  unfold Tab Lib.TabIs at h ⊢
  unfold World.var? at h ⊢
  rw [e]
  exact h
theorem key_neN {a b : ByteArray} (h : ¬ a = b) : (a.toList == b.toList) = false := by
  rw [beq_eq_false_iff_ne]
  intro e
  rw [ByteArray.toList_eq, ByteArray.toList_eq] at e
  exact h (WideShapes.bytes_inj e)
set_option maxRecDepth 100000 in
theorem nameM_4false (w : World) :
    Calls Tryd.prog 5 #[.agg #[.int .i64 4, .int .i64 0, .int .i64 0, .bool false]] w fun e w' => e = .returned (.string ⟨(nameN ⟨4, 0, 0, false⟩).toArray⟩) ∧ Below w.heap.size w w' := by
  have hn := Lib.hid (show nameN ⟨4, 0, 0, false⟩ = catB by decide)
  rw [hn.out]
  go_enter Tryd.func5, Tryd.ntmps5
  go_wp2_with fail
  all_goals go_ret
  all_goals exact ⟨rfl, Below.al _ _⟩
set_option maxRecDepth 100000 in
theorem nameM_3bfalse (a : Int) (w : World) (ha : a < 0 ∨ 1073741824 ≤ a) :
    Calls Tryd.prog 5 #[.agg #[.int .i64 3, .int .i64 a, .int .i64 0, .bool false]] w fun e w' => e = .returned (.string ⟨(nameN ⟨3, a, 0, false⟩).toArray⟩) ∧ Below w.heap.size w w' := by
  have hn := Lib.hid (base_none 3 a 0 false (by rintro (e | e | ⟨_, e, _⟩ | ⟨e, _⟩); cases e; cases e; (have h1 := e.1; have h2 := e.2; omega); cases e))
  rw [hn.out]
  rcases ha with ha | ha
  · have h1 : ¬ 0 ≤ a := by omega
    go_enter Tryd.func5, Tryd.ntmps5
    go_wp2
    all_goals go_ret
    all_goals exact ⟨rfl, Below.al _ _⟩
  · have h0 : 0 ≤ a := by omega
    have h1 : ¬ a < 1073741824 := by omega
    go_enter Tryd.func5, Tryd.ntmps5
    go_wp2
    all_goals go_ret
    all_goals exact ⟨rfl, Below.al _ _⟩
set_option maxRecDepth 100000 in
theorem nameM_3false (a : Int) (ha0 : 0 ≤ a) (ha1 : a < 1073741824) (w : World) (ht : Tab w) :
    Calls Tryd.prog 5 #[.agg #[.int .i64 3, .int .i64 a, .int .i64 0, .bool false]] w fun e w' => e = .returned (.string ⟨(nameN ⟨3, a, 0, false⟩).toArray⟩) ∧ Below w.heap.size w w' := by
  have hx0 := Box.new w 23 #[.int .i64 3, .int .i64 a, .int .i64 0, .bool false]
  have ha := Below.al w (.cells #[.int .i64 3, .int .i64 a, .int .i64 0, .bool false] 23)
  have HX := Lib.hid (And.intro hx0 ha)
  have ht' := Lib.hid (tab_below ht ha)
  have hb : baseN ⟨3, a, 0, false⟩ = 116 :: (Lib.decDigits a.toNat ++ 46 :: manB) := by
    rw [base_piece, if_neg (by decide), if_neg (by decide), if_pos rfl, if_pos ⟨⟨by omega, by omega⟩, rfl⟩]
    rfl
  have hn := name_base 3 a 0 false hb
  rw [if_neg (by simp)] at hn
  have hfin : (⟨(nameN ⟨3, a, 0, false⟩).toArray⟩ : ByteArray) = ByteArray.mk #[116] ++ ⟨(Lib.decDigits a.toNat).toArray⟩ ++ ByteArray.mk #[46, 109, 97, 110] := by
    rw [hn]
    apply ByteArray.ext
    simp [manB]
  have HFN := Lib.hid hfin
  have lu : (Lib.decDigits a.toNat).length ≤ 1073741824 := by have := dig_len a.toNat; omega
  have HV := Lib.hid (And.intro ha0 ha1)
  have HL := Lib.hid lu
  have hne3 : ¬ (ByteArray.mk #[116] ++ ⟨(Lib.decDigits a.toNat).toArray⟩ ++ ByteArray.mk #[46, 109, 97, 110]) = ByteArray.mk #[] := fun e => by
    have := congrArg ByteArray.size e
    rw [ByteArray.size_append, ByteArray.size_append] at this
    have h5 : (ByteArray.mk #[46, 109, 97, 110]).size = 4 := rfl
    have h6 : (ByteArray.mk #[]).size = 0 := rfl
    omega
  have HN := Lib.hid hne3
  clear ht hx0 ha hb hn hfin hne3 lu
  go_enter Tryd.func5, Tryd.ntmps5
  go_upto_region 9 with go_in
  have lu := HL.out
  go_upto_region 12 with (first
    | (go_at_call 25
       refine (itoa_int a HV.out.1 HV.out.2 _ (tab_heap ht'.out rfl)).mono ?_
       rintro e w1 ⟨rfl, hb1⟩
       have hxc := ((show Box _ w.heap.size _ _ from HX.out.1).next hb1).cell
       have B1 := Lib.hid hb1
       clear hb1)
    | go_in)
  obtain ⟨P, hP⟩ : ∃ P : ByteArray, ByteArray.mk #[116] ++ ⟨(Lib.decDigits a.toNat).toArray⟩ ++ ByteArray.mk #[46, 109, 97, 110] = P := ⟨_, rfl⟩
  have hPz : P.size ≤ 1073741832 := by
    rw [← hP, ByteArray.size_append, ByteArray.size_append]
    have h4 : (ByteArray.mk #[116]).size = 1 := rfl
    have h5 : (ByteArray.mk #[46, 109, 97, 110]).size = 4 := rfl
    have h6 : (ByteArray.mk (Lib.decDigits a.toNat).toArray).size = (Lib.decDigits a.toNat).length := by show (Lib.decDigits a.toNat).toArray.size = _; simp
    omega
  have q1 : ¬ 9223372036854775807 < P.size + 4 := by omega
  have hne3 : ¬ P = ByteArray.mk #[] := by rw [← hP]; exact HN.out
  have hne := key_neN hne3
  have hne2 : (P.toList == []) = false := by
    rw [beq_eq_false_iff_ne]
    intro e
    rw [ByteArray.toList_eq] at e
    exact hne3 (WideShapes.bytes_inj e)
  have HPP := Lib.hid hP
  rw [hP] at HFN ⊢
  clear hP hPz lu
  go_wp2
  go_ret
  exact ⟨by rw [HFN.out]; rfl, (show Below w.heap.size w _ from ⟨HX.out.2.os, HX.out.2.tape, HX.out.2.output, HX.out.2.size, HX.out.2.block⟩).trans (B1.out.mono HX.out.2.size)⟩
set_option maxRecDepth 100000 in
theorem nameM_4true (w : World) :
    Calls Tryd.prog 5 #[.agg #[.int .i64 4, .int .i64 0, .int .i64 0, .bool true]] w fun e w' => e = .returned (.string ⟨(nameN ⟨4, 0, 0, true⟩).toArray⟩) ∧ Below w.heap.size w w' := by
  have hn := Lib.hid (show nameN ⟨4, 0, 0, true⟩ = catB ++ tmpB by decide)
  rw [hn.out]
  go_enter Tryd.func5, Tryd.ntmps5
  go_wp2_with fail
  all_goals go_ret
  all_goals exact ⟨rfl, Below.al _ _⟩
set_option maxRecDepth 100000 in
theorem nameM_3btrue (a : Int) (w : World) (ha : a < 0 ∨ 1073741824 ≤ a) :
    Calls Tryd.prog 5 #[.agg #[.int .i64 3, .int .i64 a, .int .i64 0, .bool true]] w fun e w' => e = .returned (.string ⟨(nameN ⟨3, a, 0, true⟩).toArray⟩) ∧ Below w.heap.size w w' := by
  have hn := Lib.hid (base_none 3 a 0 true (by rintro (e | e | ⟨_, e, _⟩ | ⟨e, _⟩); cases e; cases e; (have h1 := e.1; have h2 := e.2; omega); cases e))
  rw [hn.out]
  rcases ha with ha | ha
  · have h1 : ¬ 0 ≤ a := by omega
    go_enter Tryd.func5, Tryd.ntmps5
    go_wp2
    all_goals go_ret
    all_goals exact ⟨rfl, Below.al _ _⟩
  · have h0 : 0 ≤ a := by omega
    have h1 : ¬ a < 1073741824 := by omega
    go_enter Tryd.func5, Tryd.ntmps5
    go_wp2
    all_goals go_ret
    all_goals exact ⟨rfl, Below.al _ _⟩
set_option maxRecDepth 100000 in
theorem nameM_3true (a : Int) (ha0 : 0 ≤ a) (ha1 : a < 1073741824) (w : World) (ht : Tab w) :
    Calls Tryd.prog 5 #[.agg #[.int .i64 3, .int .i64 a, .int .i64 0, .bool true]] w fun e w' => e = .returned (.string ⟨(nameN ⟨3, a, 0, true⟩).toArray⟩) ∧ Below w.heap.size w w' := by
  have hx0 := Box.new w 23 #[.int .i64 3, .int .i64 a, .int .i64 0, .bool true]
  have ha := Below.al w (.cells #[.int .i64 3, .int .i64 a, .int .i64 0, .bool true] 23)
  have HX := Lib.hid (And.intro hx0 ha)
  have ht' := Lib.hid (tab_below ht ha)
  have hb : baseN ⟨3, a, 0, true⟩ = 116 :: (Lib.decDigits a.toNat ++ 46 :: manB) := by
    rw [base_piece, if_neg (by decide), if_neg (by decide), if_pos rfl, if_pos ⟨⟨by omega, by omega⟩, rfl⟩]
    rfl
  have hn := name_base 3 a 0 true hb
  rw [if_neg (by simp)] at hn
  have hfin : (⟨(nameN ⟨3, a, 0, true⟩).toArray⟩ : ByteArray) = ByteArray.mk #[116] ++ ⟨(Lib.decDigits a.toNat).toArray⟩ ++ ByteArray.mk #[46, 109, 97, 110] ++ ByteArray.mk #[46, 116, 109, 112] := by
    rw [hn]
    apply ByteArray.ext
    simp [manB, tmpB]
  have HFN := Lib.hid hfin
  have lu : (Lib.decDigits a.toNat).length ≤ 1073741824 := by have := dig_len a.toNat; omega
  have HV := Lib.hid (And.intro ha0 ha1)
  have HL := Lib.hid lu
  have hne3 : ¬ (ByteArray.mk #[116] ++ ⟨(Lib.decDigits a.toNat).toArray⟩ ++ ByteArray.mk #[46, 109, 97, 110]) = ByteArray.mk #[] := fun e => by
    have := congrArg ByteArray.size e
    rw [ByteArray.size_append, ByteArray.size_append] at this
    have h5 : (ByteArray.mk #[46, 109, 97, 110]).size = 4 := rfl
    have h6 : (ByteArray.mk #[]).size = 0 := rfl
    omega
  have HN := Lib.hid hne3
  clear ht hx0 ha hb hn hfin hne3 lu
  go_enter Tryd.func5, Tryd.ntmps5
  go_upto_region 9 with go_in
  have lu := HL.out
  go_upto_region 12 with (first
    | (go_at_call 25
       refine (itoa_int a HV.out.1 HV.out.2 _ (tab_heap ht'.out rfl)).mono ?_
       rintro e w1 ⟨rfl, hb1⟩
       have hxc := ((show Box _ w.heap.size _ _ from HX.out.1).next hb1).cell
       have B1 := Lib.hid hb1
       clear hb1)
    | go_in)
  obtain ⟨P, hP⟩ : ∃ P : ByteArray, ByteArray.mk #[116] ++ ⟨(Lib.decDigits a.toNat).toArray⟩ ++ ByteArray.mk #[46, 109, 97, 110] = P := ⟨_, rfl⟩
  have hPz : P.size ≤ 1073741832 := by
    rw [← hP, ByteArray.size_append, ByteArray.size_append]
    have h4 : (ByteArray.mk #[116]).size = 1 := rfl
    have h5 : (ByteArray.mk #[46, 109, 97, 110]).size = 4 := rfl
    have h6 : (ByteArray.mk (Lib.decDigits a.toNat).toArray).size = (Lib.decDigits a.toNat).length := by show (Lib.decDigits a.toNat).toArray.size = _; simp
    omega
  have q1 : ¬ 9223372036854775807 < P.size + 4 := by omega
  have hne3 : ¬ P = ByteArray.mk #[] := by rw [← hP]; exact HN.out
  have hne := key_neN hne3
  have hne2 : (P.toList == []) = false := by
    rw [beq_eq_false_iff_ne]
    intro e
    rw [ByteArray.toList_eq] at e
    exact hne3 (WideShapes.bytes_inj e)
  have HPP := Lib.hid hP
  rw [hP] at HFN ⊢
  clear hP hPz lu
  go_wp2
  go_ret
  exact ⟨by rw [HFN.out]; rfl, (show Below w.heap.size w _ from ⟨HX.out.2.os, HX.out.2.tape, HX.out.2.output, HX.out.2.size, HX.out.2.block⟩).trans (B1.out.mono HX.out.2.size)⟩
theorem nameM_any (k id seg : Int) (t : Bool) (w : World) (ht : Tab w) :
    Calls Tryd.prog 5 #[.agg #[.int .i64 k, .int .i64 id, .int .i64 seg, .bool t]] w fun e w' => e = .returned (.string ⟨(nameN ⟨k, id, seg, t⟩).toArray⟩) ∧ Below w.heap.size w w' := by
  rcases (show k < 1 ∨ 4 < k ∨ k = 1 ∨ k = 2 ∨ k = 3 ∨ k = 4 by omega) with h | h | rfl | rfl | rfl | rfl
  · exact nameM_lo k id seg t w h
  · exact nameM_hi k id seg t w h
  · exact nameM_1 id seg t w ht
  · exact nameM_2 id seg t w ht
  · by_cases hs : seg = 0
    · subst hs
      by_cases hi : 0 ≤ id ∧ id < 1073741824
      · cases t with
        | false => exact nameM_3false id hi.1 hi.2 w ht
        | true => exact nameM_3true id hi.1 hi.2 w ht
      · cases t with
        | false => exact nameM_3bfalse id w (by omega)
        | true => exact nameM_3btrue id w (by omega)
    · exact nameM_3seg id seg t w hs
  · by_cases hc : id = 0 ∧ seg = 0
    · obtain ⟨rfl, rfl⟩ := hc
      cases t with
      | false => exact nameM_4false w
      | true => exact nameM_4true w
    · exact nameM_4id id seg t w hc
end Go.Proofs.YtbmbgkgjlnookaaDoor
