import Derived.Test.YtociadicjbkjcaaKd16
namespace Go.Proofs.Ytociadicjbkjcaa
open Go.RowKit Go.Maps

def keyA : ByteArray := ⟨#[97]⟩
def keyB : ByteArray := ⟨#[98]⟩
def ent1 : En := ⟨0, 0, 0, 1, 0, false⟩
def ent7 : En := ⟨0, 0, 0, 7, 0, false⟩
theorem hd0 : getL keyB [] = none := rfl
theorem hd1 : putL keyB ent1 [] = [(keyB, ent1)] := rfl
theorem hd2 : getL keyB [(keyB, ent1)] = some ent1 := by decide
theorem hd3 : putL keyB ent7 [(keyB, ent1)] = [(keyB, ent7)] := by decide
theorem hd4 : getL keyB [(keyB, ent7)] = some ent7 := by decide
theorem hd5 : getL keyA [(keyB, ent7)] = none := by decide
theorem hd6 : putL keyA En.zero [(keyB, ent7)] = [(keyA, En.zero), (keyB, ent7)] := by decide
theorem hd7 : (sel ⟨#[]⟩ ⟨#[]⟩ [(keyA, En.zero), (keyB, ent7)]).take 9 = [(keyA, En.zero), (keyB, ent7)] := by decide

theorem put1 (d : Nat) (w : World) (h : DR w d []) : Calls Try.prog 21 #[.pointer (some ⟨d, 0, none⟩), .string ⟨#[98]⟩, .agg #[.int .i64 0, .int .i64 0, .int .i64 0, .int .i64 1, .int .i64 0, .bool false]] w fun e w' =>
    e = .returned (.tuple #[.agg #[.int .i64 0, .int .i64 0, .int .i64 0, .int .i64 0, .int .i64 0, .bool false], .bool false, .int .i64 0]) ∧ DR w' d [(keyB, ent1)] ∧ Dch d w w' := put_ok d keyB ent1 [] w h (by decide) (by simp)
theorem put2 (d : Nat) (w : World) (h : DR w d [(keyB, ent1)]) : Calls Try.prog 21 #[.pointer (some ⟨d, 0, none⟩), .string ⟨#[98]⟩, .agg #[.int .i64 0, .int .i64 0, .int .i64 0, .int .i64 7, .int .i64 0, .bool false]] w fun e w' =>
    e = .returned (.tuple #[.agg #[.int .i64 0, .int .i64 0, .int .i64 0, .int .i64 1, .int .i64 0, .bool false], .bool true, .int .i64 0]) ∧ DR w' d [(keyB, ent7)] ∧ Dch d w w' := by
  have := put_ok d keyB ent7 [(keyB, ent1)] w h (by decide) (by simp)
  rwa [hd2, hd3] at this
theorem note1 (d : Nat) (w : World) (h : DR w d [(keyB, ent7)]) : Calls Try.prog 10 #[.pointer (some ⟨d, 0, none⟩), .string ⟨#[98]⟩, .agg #[.int .i64 0, .int .i64 0, .int .i64 0, .int .i64 7, .int .i64 0, .bool false]] w fun e w' =>
    e = .returned (.tuple #[.bool false, .int .i64 0]) ∧ Below w.heap.size w w' := note_less d keyB ent7 _ w h (by decide) ent7 hd4 (by decide)
theorem note2 (d : Nat) (w : World) (h : DR w d [(keyB, ent7)]) : Calls Try.prog 10 #[.pointer (some ⟨d, 0, none⟩), .string ⟨#[97]⟩, .agg #[.int .i64 0, .int .i64 0, .int .i64 0, .int .i64 0, .int .i64 0, .bool false]] w fun e w' =>
    e = .returned (.tuple #[.bool true, .int .i64 0]) ∧ DR w' d [(keyA, En.zero), (keyB, ent7)] ∧ Dch d w w' := by
  have := note_none d keyA En.zero _ w h (by decide) (by simp) hd5
  rwa [hd6] at this
theorem range9 (d : Nat) (w : World) (h : DR w d [(keyA, En.zero), (keyB, ent7)]) : Calls Try.prog 16 #[.pointer (some ⟨d, 0, none⟩), .string ⟨#[]⟩, .string ⟨#[]⟩, .int .i64 9] w (RV [(keyA, En.zero), (keyB, ent7)] w) := by
  have := range_dir d _ ⟨#[]⟩ ⟨#[]⟩ 9 w h (by decide) (by decide) (by simp) (by omega) (by omega)
  rwa [show (9 : Int).toNat = 9 from rfl, hd7] at this

set_option maxRecDepth 100000 in
set_option maxHeartbeats 8000000 in
theorem head_any (w : World) : Calls Try.prog 17 #[] w fun e w' => e = .returned (.bool true) ∧ Below w.heap.size w w' := by
  go_enter Try.func17, Try.ntmps17
  go_wp2_with (first
    | (go_at_call 9
       refine (new_any _).mono ?_
       rintro e w1 ⟨rfl, hd1, hb1⟩
       have H1 := Lib.hid (And.intro hd1 hb1)
       clear hd1 hb1)
    | (go_at_call 21
       (with_reducible refine (put1 w.heap.size _ ?_).mono ?_)
       · exact H1.out.1
       rintro e w2 ⟨rfl, hd2, hc2⟩
       have H2 := Lib.hid (And.intro hd2 (dch_below H1.out.2 (Below.refl _ _) hc2 (Nat.le_refl _)))
       clear hd2 hc2 H1)
    | (go_at_call 21
       (with_reducible refine (put2 w.heap.size _ ?_).mono ?_)
       · exact H2.out.1.next (bal _ _)
       rintro e w3 ⟨rfl, hd3, hc3⟩
       have H3 := Lib.hid (And.intro hd3 (dch_below H2.out.2 (bal _ _) hc3 (Nat.le_refl _)))
       clear hd3 hc3 H2)
    | (go_at_call 10
       (with_reducible refine (note1 w.heap.size _ ?_).mono ?_)
       · exact H3.out.1.next (bal _ _)
       rintro e w4 ⟨rfl, hb4⟩
       have hx4 := (Box.new w3 26 #[.int .i64 0, .int .i64 0, .int .i64 0, .int .i64 1, .int .i64 0, .bool false]).below hb4 (by simp)
       have H4 := Lib.hid (And.intro ((H3.out.1.next (bal _ _)).next hb4) (And.intro (bel3 H3.out.2 (bal _ _) hb4) hx4))
       have hl3 := H3.out.1.lt
       clear hb4 hx4 H3)
    | (go_at_call 10
       (with_reducible refine (note2 w.heap.size _ ?_).mono ?_)
       · exact H4.out.1
       rintro e w5 ⟨rfl, hd5, hc5⟩
       have H5 := Lib.hid (And.intro hd5 (And.intro (dch_below H4.out.2.1 (Below.refl _ _) hc5 (Nat.le_refl _)) (H4.out.2.2.chg hc5 (by omega))))
       clear hd5 hc5 H4)
    | (go_at_call 16
       (with_reducible refine (range9 w.heap.size _ ?_).mono ?_)
       · exact H5.out.1
       rintro e w6 ⟨v, rfl, hr6, hb6⟩
       obtain ⟨g, cap, rfl, _, _, ho6⟩ := Own.of_row hr6 (by simp)
       have hx6 := (H5.out.2.2.below hb6 H5.out.2.2.lt).cell
       have hll : ([(keyA, En.zero), (keyB, ent7)].flatMap keC).length = 14 := rfl
       have a0 : w6.cell? ⟨g, 0, none⟩ = some (.string ⟨#[97]⟩) := ho6.cell (i := 0) (by rw [hll]; omega)
       have b0 : w6.cell? ⟨g, 7, none⟩ = some (.string ⟨#[98]⟩) := ho6.cell (i := 7) (by rw [hll]; omega)
       have b4 : w6.cell? ⟨g, 11, none⟩ = some (.int .i64 7) := ho6.cell (i := 11) (by rw [hll]; omega)
       clear hll
       have H6 := Lib.hid (And.intro ((H5.out.1).next hb6) (bel3 H5.out.2.1 (Below.refl _ _) hb6))
       clear hr6 hb6 ho6 H5)
    | (go_at_call 23
       (with_reducible refine (len_any w.heap.size [(keyA, En.zero), (keyB, ent7)] _ ?_).mono ?_)
       · exact H6.out.1
       rintro e w7 ⟨rfl, rfl⟩))
  go_ret
  exact ⟨rfl, H6.out.2⟩
end Go.Proofs.Ytociadicjbkjcaa
