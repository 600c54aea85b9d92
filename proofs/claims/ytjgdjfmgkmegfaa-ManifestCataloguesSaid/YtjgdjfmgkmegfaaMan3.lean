import Derived.Test.YtjgdjfmgkmegfaaMan2
namespace Go.Proofs.Ytjgdjfmgkmegfaa
open Go.RowKit Go.Maps

abbrev P3 := Int × Int × Int
def okp (nx last : Int) (p : P3) : Bool := decide (last < p.1) && decide (p.1 < 4294967296) && (decide (1 ≤ p.2.1) && decide (p.2.1 ≤ 1099511627775)) && (decide (0 ≤ p.2.2) && decide (p.2.2 ≤ nx - 1))
def prodsGo (nx : Int) : Int → List P3 → Bool
  | _, [] => true
  | last, p :: r => okp nx last p && prodsGo nx p.1 r
def prodsR (nx : Int) (l : List P3) : Bool := decide (l.length ≤ 64) && prodsGo nx 0 l
theorem prodsGo_bad {nx last : Int} {l : List P3} {k : Nat} (hk : k < l.length) (h : okp nx last l[k] = false) : prodsGo nx last (l.drop k) = false := by
  rw [List.drop_eq_getElem_cons hk, prodsGo, h, Bool.false_and]
theorem prodsGo_good {nx last : Int} {l : List P3} {k : Nat} (hk : k < l.length) (h : okp nx last l[k] = true) : prodsGo nx last (l.drop k) = prodsGo nx l[k].1 (l.drop (k + 1)) := by
  rw [List.drop_eq_getElem_cons hk, prodsGo, h, Bool.true_and]

set_option maxRecDepth 100000 in
set_option maxHeartbeats 1000000 in
theorem prodsRight_any (id ns nx mk cl : Int) (A : Option Addr) (c : Nat) (prods : List P3) (pv : Value) (w : World) (h0 : 0 ≤ nx) (hnx : nx ≤ 1099511627776) (hA : Rd w w.heap.size A (prods.flatMap tri)) :
    Calls Try.prog 40 #[.agg #[.int .i64 id, .int .i64 ns, .int .i64 nx, .int .i64 mk, .int .i64 cl, pv, .slice A prods.length c]] w fun e w' =>
      e = .returned (.bool (prodsR nx prods)) ∧ Below w.heap.size w w' := by
  by_cases h1 : 64 < prods.length
  · go_enter Try.func40, Try.ntmps40
    go_wp2
    go_ret
    exact ⟨ret_bool (by unfold prodsR; simp; omega), (Below.refl _ _).alloc (Nat.le_refl _) _⟩
  go_enter Try.func40, Try.ntmps40
  go_wp2
  go_loopw [3, 13] (fun v i wr => ∃ (k : Nat) (last : Int), k ≤ prods.length ∧ i = .int .i64 k ∧ v = .int .i64 last ∧ 0 ≤ last ∧ Below w.heap.size w wr ∧
      wr.cell? ⟨w.heap.size, 2, none⟩ = some (.int .i64 nx) ∧ w.heap.size < wr.heap.size ∧ prodsGo nx 0 prods = prodsGo nx last (prods.drop k))
    (fun _ i _ => prods.length - (intOf i).toNat)
  case atStart =>
    exact ⟨0, 0, Nat.zero_le _, rfl, rfl, by omega, (Below.refl _ _).alloc (Nat.le_refl _) _, by go_simp, by simp, by simp⟩
  case round =>
    obtain ⟨k, last, hk, rfl, rfl, hl0, hb, hc2, hsz, hgo⟩ := hrel
    have Hgo := Lib.hid hgo
    clear hgo
    by_cases hlt : k < prods.length
    · obtain ⟨ad, rfl, hadb, hp1, hp2, hp3⟩ := (hA.below hb).tri_ hlt
      generalize hpe : prods[k] = p at hp1 hp2 hp3
      have Hpe := Lib.hid hpe
      clear hpe
      by_cases hg : okp nx last p = true
      · have Hg := Lib.hid hg
        simp only [okp, Bool.and_eq_true, decide_eq_true_eq] at hg
        obtain ⟨⟨⟨g1, g2⟩, g3, g4⟩, g5, g6⟩ := hg
        go_wp2_with (go_at_call 38; refine (within_any _ _ _ _).mono ?_; rintro e w' ⟨rfl, rfl⟩)
        go_roundw
        case rel =>
          refine ⟨k + 1, p.1, by omega, by go_num, rfl, by omega, hb.alloc (by omega) _, by go_simp, by simp; omega, ?_⟩
          rw [Hgo.out, prodsGo_good hlt (by rw [Hpe.out]; exact Hg.out), Hpe.out]
        case measure => simp [intOf]; omega
      · have hbad : prodsR nx prods = false := by
          rw [prodsR, Hgo.out, prodsGo_bad hlt (by rw [Hpe.out]; simpa using hg), Bool.and_false]
        have Hbad := Lib.hid hbad
        have Hg := Lib.hid hg
        clear hbad hg
        go_wp2_with (go_at_call 38; refine (within_any _ _ _ _).mono ?_; rintro e w' ⟨rfl, rfl⟩)
        all_goals first
          | (go_ret; exact ⟨ret_bool Hbad.out.symm, hb.alloc (by omega) _⟩)
          | (exfalso; apply Hg.out; simp only [okp, Bool.and_eq_true, decide_eq_true_eq]; simp at *; omega)
    · go_wp2
      go_ret
      refine ⟨ret_bool ?_, hb⟩
      have e := Hgo.out
      rw [List.drop_of_length_le (by omega)] at e
      rw [prodsR, e, prodsGo]; simp; omega

theorem okp_ref {nx last : Int} {p : P3} : okp nx last p = true ↔ (last < p.1 ∧ p.1 < 4294967296) ∧ (1 ≤ p.2.1 ∧ p.2.1 ≤ 1099511627775) ∧ 0 ≤ p.2.2 ∧ p.2.2 ≤ nx - 1 := by
  simp only [okp, Bool.and_eq_true, decide_eq_true_eq, and_assoc]

set_option maxRecDepth 100000 in
set_option maxHeartbeats 2000000 in
theorem refProdsRight_any (id ns nx mk cl : Int) (A : Option Addr) (c : Nat) (prods : List P3) (pv : Value) (w : World) (h0 : 0 ≤ nx) (hnx : nx ≤ 1099511627776) (hA : Rd w w.heap.size A (prods.flatMap tri)) :
    Calls Try.prog 44 #[.agg #[.int .i64 id, .int .i64 ns, .int .i64 nx, .int .i64 mk, .int .i64 cl, pv, .slice A prods.length c]] w fun e w' =>
      e = .returned (.bool (prodsR nx prods)) ∧ Below w.heap.size w w' := by
  by_cases h1 : 64 < prods.length
  · go_enter Try.func44, Try.ntmps44
    go_wp2
    go_ret
    exact ⟨ret_bool (by unfold prodsR; simp; omega), (Below.refl _ _).alloc (Nat.le_refl _) _⟩
  go_enter Try.func44, Try.ntmps44
  go_wp2
  go_loopw [3] (fun i wr => ∃ (k : Nat) (last : Int), k ≤ prods.length ∧ i = .int .i64 k ∧ 0 ≤ last ∧ Below w.heap.size w wr ∧
      wr.cell? ⟨w.heap.size, 2, none⟩ = some (.int .i64 nx) ∧ wr.cell? ⟨w.heap.size, 6, none⟩ = some (.slice A prods.length c) ∧ w.heap.size < wr.heap.size ∧ prodsGo nx 0 prods = prodsGo nx last (prods.drop k) ∧
      (k = 0 → last = 0) ∧ ∀ p, 0 < k → prods[k - 1]? = some p → p.1 = last)
    (fun i _ => prods.length - (intOf i).toNat)
  case atStart =>
    exact ⟨0, 0, Nat.zero_le _, rfl, by omega, (Below.refl _ _).alloc (Nat.le_refl _) _, by go_simp, by go_simp, by simp, by simp, fun _ => rfl, by omega⟩
  case round =>
    obtain ⟨k, last, hk, rfl, hl0, hb, hc2, hc6, hsz, hgo, hlz, hlp⟩ := hrel
    have Hgo := Lib.hid hgo
    have Hlp := Lib.hid hlp
    have Hlz := Lib.hid hlz
    clear hgo hlp hlz
    by_cases hlt : k < prods.length
    · have hrd := Lib.hid (hA.below hb)
      obtain ⟨ad, rfl, hadb, hp1, hp2, hp3⟩ := hrd.out.tri_ hlt
      generalize hpe : prods[k] = p at hp1 hp2 hp3
      have Hpe := Lib.hid hpe
      clear hpe
      have Hfin : Hid (okp nx last p = false → prodsR nx prods = false) := fun hg => by
        rw [prodsR, Hgo.out, prodsGo_bad hlt (by rw [Hpe.out]; exact hg), Bool.and_false]
      by_cases hg : ((1 ≤ p.1 ∧ p.1 ≤ 4294967295) ∧ (1 ≤ p.2.1 ∧ p.2.1 ≤ 1099511627775)) ∧ 0 ≤ p.2.2 ∧ p.2.2 ≤ nx - 1
      · have Hg := Lib.hid hg
        obtain ⟨⟨⟨g1, g2⟩, g3, g4⟩, g5, g6⟩ := hg
        by_cases hk0 : 0 < k
        · obtain ⟨m, rfl⟩ : ∃ m, k = m + 1 := ⟨k - 1, by omega⟩
          obtain ⟨ad', e, _, hq1, hq2, hq3⟩ := hrd.out.tri_ (i := m) (by omega)
          cases e
          have hle : prods[m].1 = last := Hlp.out prods[m] hk0 (by simp)
          rw [hle] at hq1
          clear hle
          have hq1' : ∀ o, (wr.alloc o).cell? (ad.add (m * 3)) = some (.int .i64 last) := fun o => by
            rw [World.cell?_alloc_lt _ _ _ (by rw [add_block]; omega)]; exact hq1
          have hk00 : decide ((0 : Int) < (m : Int) + 1) = true := decide_eq_true (by omega)
          have hwr : IntKind.i64.wrap (m : Int) = m := Go.IntWalk.i64_in _ (by omega)
          have hm0 : (0 : Int) ≤ m := by omega
          have hm1 : (m : Int) < prods.length := by omega
          by_cases hpl : p.1 ≤ last
          · have Hbad := Lib.hid (Hfin (by simp [okp]; omega))
            clear Hfin
            go_wp2_with (go_at_call 42; refine (refWithin_any _ _ _ _).mono ?_; rintro e w' ⟨rfl, rfl⟩)
            go_quiet (fail)
            go_wp2
            go_ret
            exact ⟨ret_bool Hbad.out.symm, below_drewN (hb.alloc (by omega) _) _⟩
          · clear Hfin
            go_wp2_with (go_at_call 42; refine (refWithin_any _ _ _ _).mono ?_; rintro e w' ⟨rfl, rfl⟩)
            go_quiet (fail)
            go_wp2
            go_roundw
            case rel =>
              refine ⟨m + 1 + 1, p.1, by omega, by go_num, by omega, below_drewN (hb.alloc (by omega) _) _, by go_simp, by go_simp, by simp; omega, ?_, by omega, ?_⟩
              · rw [Hgo.out, prodsGo_good hlt (by rw [Hpe.out]; exact okp_ref.2 ⟨⟨by omega, by omega⟩, ⟨g3, g4⟩, g5, g6⟩), Hpe.out]
              · intro q _ hq
                rw [show m + 1 + 1 - 1 = m + 1 from rfl, List.getElem?_eq_getElem hlt, Hpe.out] at hq
                cases hq; rfl
            case measure => simp [intOf]; omega
        · have hk1 : Hid (last = 0) := Hlz.out (by omega)
          have hk00 : decide ((0 : Int) < (k : Int)) = false := by simp at hk0 ⊢; omega
          go_wp2_with (go_at_call 42; refine (refWithin_any _ _ _ _).mono ?_; rintro e w' ⟨rfl, rfl⟩)
          go_quiet (fail)
          go_wp2
          go_roundw
          case rel =>
            refine ⟨k + 1, p.1, by omega, by go_num, by omega, below_drewN (hb.alloc (by omega) _) _, by go_simp, by go_simp, by simp; omega, ?_, by omega, ?_⟩
            · rw [Hgo.out, prodsGo_good hlt (by rw [Hpe.out]; exact okp_ref.2 ⟨⟨by have := hk1.out; omega, by omega⟩, ⟨g3, g4⟩, g5, g6⟩), Hpe.out]
            · intro q _ hq
              rw [show k + 1 - 1 = k from rfl, List.getElem?_eq_getElem hlt, Hpe.out] at hq
              cases hq; rfl
          case measure => simp [intOf]; omega
      · have Hbad := Lib.hid (Hfin (by
          cases ho : okp nx last p with
          | false => rfl
          | true =>
            have := okp_ref.1 ho
            exact absurd ⟨⟨⟨by omega, by omega⟩, this.2.1⟩, this.2.2⟩ hg))
        have Hg := Lib.hid hg
        clear hg Hfin
        go_wp2_with (go_at_call 42; refine (refWithin_any _ _ _ _).mono ?_; rintro e w' ⟨rfl, rfl⟩)
        all_goals first
          | (go_ret; exact ⟨ret_bool Hbad.out.symm, hb.alloc (by omega) _⟩)
          | (exfalso; apply Hg.out; simp at *; omega)
    · go_wp2
      go_ret
      refine ⟨ret_bool ?_, hb⟩
      have e := Hgo.out
      rw [List.drop_of_length_le (by omega)] at e
      rw [prodsR, e, prodsGo]; simp; omega
end Go.Proofs.Ytjgdjfmgkmegfaa
