import Derived.Test.YtbmbgkgjlnookaaDoorOMan10
namespace Go.Proofs.YtbmbgkgjlnookaaDoor
open Go.RowKit Go.Maps

def mix {α : Type} (a b : List α) (k : Nat) : List α := a.take k ++ b.drop k
theorem mix_zero {α : Type} (a b : List α) : mix a b 0 = b := by simp [mix]
theorem mix_all {α : Type} (a b : List α) (k : Nat) (ha : a.length ≤ k) (hb : b.length ≤ k) : mix a b k = a := by simp [mix, List.take_of_length_le ha, List.drop_of_length_le hb]
theorem mix_len {α : Type} (a b : List α) (k : Nat) (h : a.length = b.length) (hk : k ≤ a.length) : (mix a b k).length = a.length := by simp [mix]; omega
theorem mix_set {α : Type} (a b : List α) (k : Nat) (h : a.length = b.length) (hk : k < a.length) : (mix a b k).set k a[k] = mix a b (k + 1) := by
  have hb : k < b.length := by omega
  have hl : (a.take k).length = k := by simp; omega
  rw [mix, List.set_append_right _ _ (by omega), hl, Nat.sub_self, List.drop_eq_getElem_cons hb, List.set_cons_zero, mix, take_snoc a k hk, List.append_assoc]
  rfl

theorem Own.tri_set3 {w : World} {B g : Nat} {t : TypeId} {l : List P3} {ts : List Value} (h : Own w B g t (l.flatMap tri ++ ts)) {i : Nat} (hi : i < l.length) (p : P3) :
    Own (((w.setCell ⟨g, i * 3, none⟩ (.int .i64 p.1)).setCell ⟨g, i * 3 + 1, none⟩ (.int .i64 p.2.1)).setCell ⟨g, i * 3 + 2, none⟩ (.int .i64 p.2.2)) B g t ((l.set i p).flatMap tri ++ ts) := by
  have hl := tri_len l
  have h1 := h.set_ (i := i * 3) (by rw [List.length_append]; omega) (.int .i64 p.1)
  have h2 := h1.set_ (i := i * 3 + 1) (by rw [List.length_set, List.length_append]; omega) (.int .i64 p.2.1)
  have h3 := h2.set_ (i := i * 3 + 2) (by rw [List.length_set, List.length_set, List.length_append]; omega) (.int .i64 p.2.2)
  rw [List.set_append_left _ _ (by omega), List.set_append_left _ _ (by rw [List.length_set]; omega), List.set_append_left _ _ (by rw [List.length_set, List.length_set]; omega), ← flatMap_set3 l i hi] at h3
  exact h3

set_option maxRecDepth 100000 in
set_option maxHeartbeats 4000000 in
theorem back_any (id ns nx mk cl id' ns' nx' mk' cl' : Int) (g h c d : Nat) (A A' : Option Addr) (c' d' : Nat) (segs segs' : List Int) (prods prods' : List P3) (ts tp : List Value) (B : Nat) (w : World)
    (hO : Own w B g 3 (segs'.map (.int .i64) ++ ts)) (hP : Own w B h 60 (prods'.flatMap tri ++ tp)) (hgh : g ≠ h)
    (hA : Rd w B A (segs.map (.int .i64))) (hA' : Rd w B A' (prods.flatMap tri)) (hBw : B ≤ w.heap.size)
    (hls : segs.length = segs'.length) (hlp : prods.length = prods'.length) (hmx : segs.length ≤ maxLen) (hmy : prods.length ≤ maxLen) :
    Calls Tryd.prog 14 #[manV id ns nx mk cl (.slice (some ⟨g, 0, none⟩) segs.length c) (.slice (some ⟨h, 0, none⟩) prods.length d), manV id' ns' nx' mk' cl' (.slice A segs.length c') (.slice A' prods.length d')] w fun e w' =>
      e = .returned (.tuple #[]) ∧ Own w' B g 3 (segs.map (.int .i64) ++ ts) ∧ Own w' B h 60 (prods.flatMap tri ++ tp) ∧ Chg (fun k => k = g ∨ k = h) w w' := by
  have hgl := hO.lt
  have hhl := hP.lt
  have hgB := hO.1
  have hhB := hP.1
  unfold maxLen at hmx hmy
  have HO := Lib.hid hO
  have HP := Lib.hid hP
  have HLs := Lib.hid hls
  have HLp := Lib.hid hlp
  clear hO hP hls hlp
  go_enter Tryd.func14, Tryd.ntmps14
  go_wp2
  go_loopw [4] (fun i wr => ∃ (k : Nat), k ≤ segs.length ∧ i = .int .i64 k ∧ Own wr B g 3 ((mix segs segs' k).map (.int .i64) ++ ts) ∧ Own wr B h 60 (prods'.flatMap tri ++ tp) ∧
      Chg (fun k => k = g ∨ k = h) w wr ∧ Box wr w.heap.size 31 #[.int .i64 id, .int .i64 ns, .int .i64 nx, .int .i64 mk, .int .i64 cl, .slice (some ⟨g, 0, none⟩) segs.length c, .slice (some ⟨h, 0, none⟩) prods.length d] ∧
      Box wr (w.heap.size + 1) 31 #[.int .i64 id', .int .i64 ns', .int .i64 nx', .int .i64 mk', .int .i64 cl', .slice A segs.length c', .slice A' prods.length d'])
    (fun i _ => segs.length - (intOf i).toNat)
  case atStart =>
    refine ⟨0, Nat.zero_le _, rfl, ?_, (HP.out.alloc _).alloc _, ((Chg.refl _ _).alloc _).alloc _, (Box.new w _ _).alloc _, ?_⟩
    · rw [mix_zero]; exact (HO.out.alloc _).alloc _
    · simpa using Box.new (w.alloc (.cells #[.int .i64 id, .int .i64 ns, .int .i64 nx, .int .i64 mk, .int .i64 cl, .slice (some ⟨g, 0, none⟩) segs.length c, .slice (some ⟨h, 0, none⟩) prods.length d] 31)) 31 #[.int .i64 id', .int .i64 ns', .int .i64 nx', .int .i64 mk', .int .i64 cl', .slice A segs.length c', .slice A' prods.length d']
  case round =>
    obtain ⟨k, hk, rfl, hO, hP, hC, hX, hY⟩ := hrel
    have hcx := hX.cell
    have hcy := hY.cell
    by_cases hlt : k < segs.length
    · have hk0 : (0 : Int) ≤ k := by omega
      have hk1 : (k : Int) < segs.length := by omega
      have hlm := Lib.hid (mix_len segs segs' k HLs.out hk)
      have hck := hO.int (i := k) (by rw [hlm.out]; exact hlt)
      have hfk := hO.free k
      obtain ⟨ad, rfl, had, hca⟩ := (hA.below (hC.below (B := B) hBw (by rintro j (rfl | rfl) <;> assumption))).int hlt
      have H := Lib.hid (And.intro hO (And.intro hP (And.intro hC (And.intro hX hY))))
      clear hO hP hC hX hY
      go_wp2
      go_still_tail 9, (by kernel_rfl)
      go_wp2
      go_roundw
      case rel =>
        refine ⟨k + 1, by omega, by go_num, ?_, (H.out.2.1.far (by simpa using hgh.symm) _).drew, (H.out.2.2.1.setCell (.inl (.inl rfl)) _).drew, (H.out.2.2.2.1.far (by simp <;> omega) _).drew, (H.out.2.2.2.2.far (by simp <;> omega) _).drew⟩
        rw [← mix_set segs segs' k HLs.out hlt]
        exact (H.out.1.int_set (by rw [hlm.out]; exact hlt) _).drew
      case measure => simp [intOf]; omega
    · have HO2 : Hid (Own wr B g 3 (segs.map (.int .i64) ++ ts)) := by
        have := HLs.out
        rw [mix_all segs segs' k (by omega) (by omega)] at hO; exact hO
      clear hO
      go_wp2
      go_loopw [5] (fun i wr => ∃ (m : Nat), m ≤ prods.length ∧ i = .int .i64 m ∧ Own wr B g 3 (segs.map (.int .i64) ++ ts) ∧ Own wr B h 60 ((mix prods prods' m).flatMap tri ++ tp) ∧
          Chg (fun k => k = g ∨ k = h) w wr ∧ Box wr w.heap.size 31 #[.int .i64 id, .int .i64 ns, .int .i64 nx, .int .i64 mk, .int .i64 cl, .slice (some ⟨g, 0, none⟩) segs.length c, .slice (some ⟨h, 0, none⟩) prods.length d] ∧
          Box wr (w.heap.size + 1) 31 #[.int .i64 id', .int .i64 ns', .int .i64 nx', .int .i64 mk', .int .i64 cl', .slice A segs.length c', .slice A' prods.length d'])
        (fun i _ => prods.length - (intOf i).toNat)
      case atStart => exact ⟨0, Nat.zero_le _, rfl, HO2.out, by rw [mix_zero]; exact hP, hC, hX, hY⟩
      case round =>
        obtain ⟨m, hm, rfl, hO, hP, hC, hX, hY⟩ := hrel
        have hcx := hX.cell
        have hcy := hY.cell
        by_cases hlt2 : m < prods.length
        · have hk0 : (0 : Int) ≤ m := by omega
          have hk1 : (m : Int) < prods.length := by omega
          have hlm := Lib.hid (mix_len prods prods' m HLp.out hm)
          have hck := hP.tri_ (i := m) (by rw [hlm.out]; exact hlt2)
          obtain ⟨q1, q2, q3⟩ := hck
          have hfk := hP.free
          obtain ⟨ad, rfl, had, hca, hca2, hca3⟩ := (hA'.below (hC.below (B := B) hBw (by rintro j (rfl | rfl) <;> assumption))).tri_ hlt2
          have H := Lib.hid (And.intro hO (And.intro hP (And.intro hC (And.intro hX hY))))
          clear hO hP hC hX hY
          go_wp2
          go_still_tail 9, (by kernel_rfl)
          go_wp2
          go_roundw
          case rel =>
            refine ⟨m + 1, by omega, by go_num, ?_, ?_, ?_, ?_, ?_⟩
            · refine Own.drew ?_
              repeat (with_reducible refine Own.far ?_ (by simpa using hgh) _)
              exact H.out.1
            · rw [← mix_set prods prods' m HLp.out hlt2]
              exact (H.out.2.1.tri_set3 (by rw [hlm.out]; exact hlt2) prods[m]).drew
            · refine Chg.drew ?_
              repeat (with_reducible refine Chg.setCell ?_ (Or.inl (Or.inr rfl)) _)
              exact H.out.2.2.1
            · refine Box.drew ?_
              repeat (with_reducible refine Box.far ?_ (by simp <;> omega) _)
              exact H.out.2.2.2.1
            · refine Box.drew ?_
              repeat (with_reducible refine Box.far ?_ (by simp <;> omega) _)
              exact H.out.2.2.2.2
          case measure => simp [intOf]; omega
        · have H := Lib.hid (And.intro hO (And.intro hP (And.intro hC (And.intro hX hY))))
          clear hO hP hC hX hY
          go_wp2
          go_end0
          refine ⟨rfl, H.out.1, ?_, H.out.2.2.1⟩
          have := H.out.2.1
          have h2 := HLp.out
          rw [mix_all prods prods' m (by omega) (by omega)] at this; exact this
end Go.Proofs.YtbmbgkgjlnookaaDoor
