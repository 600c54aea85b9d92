import Derived.Test.YtjgdjfmgkmegfaaMan3
namespace Go.Proofs.Ytjgdjfmgkmegfaa
open Go.RowKit Go.Maps

def manA (id ns : Int) : Prop := ((0 ≤ id ∧ id < 1073741824) ∧ 2 ≤ ns) ∧ ns ≤ 1073741824
def manB (nx mk cl : Int) : Prop := ((0 ≤ nx ∧ nx ≤ 1099511627776) ∧ 0 ≤ mk ∧ mk ≤ nx) ∧ 0 ≤ cl ∧ cl ≤ 1125899906842623
instance (id ns : Int) : Decidable (manA id ns) := by unfold manA; infer_instance
instance (nx mk cl : Int) : Decidable (manB nx mk cl) := by unfold manB; infer_instance
def manR (id ns nx mk cl : Int) (segs : List Int) (prods : List P3) : Bool := decide (manA id ns) && decide (manB nx mk cl) && segsR ns segs && prodsR nx prods
def manE (id ns nx mk cl : Int) (segs : List Int) (prods : List P3) : Int := if manR id ns nx mk cl segs prods = true then 0 else 70
theorem manE_bad {id ns nx mk cl : Int} {segs : List Int} {prods : List P3} (h : manR id ns nx mk cl segs prods = false) : (70 : Int) = manE id ns nx mk cl segs prods := by unfold manE; rw [h]; rfl
theorem manE_good {id ns nx mk cl : Int} {segs : List Int} {prods : List P3} (h : manR id ns nx mk cl segs prods = true) : (0 : Int) = manE id ns nx mk cl segs prods := by unfold manE; rw [h]; rfl

set_option maxRecDepth 100000 in
set_option maxHeartbeats 2000000 in
theorem check_any (id ns nx mk cl : Int) (A B : Option Addr) (c d : Nat) (segs : List Int) (prods : List P3) (w : World) (hA : Rd w w.heap.size A (segs.map (.int .i64))) (hB : Rd w w.heap.size B (prods.flatMap tri)) (hw : ∀ s ∈ segs, (Lit.int .i64 s).wf = true) :
    Calls Try.prog 9 #[.agg #[.int .i64 id, .int .i64 ns, .int .i64 nx, .int .i64 mk, .int .i64 cl, .slice A segs.length c, .slice B prods.length d]] w fun e w' =>
      e = .returned (.int .i64 (manE id ns nx mk cl segs prods)) ∧ Below w.heap.size w w' := by
  have hb0 : Below w.heap.size w (w.alloc (.cells #[.int .i64 id, .int .i64 ns, .int .i64 nx, .int .i64 mk, .int .i64 cl, .slice A segs.length c, .slice B prods.length d] 25)) := (Below.refl _ _).alloc (Nat.le_refl _) _
  by_cases h1 : manA id ns
  · have H1 := Lib.hid h1
    unfold manA at h1
    obtain ⟨⟨⟨a1, a2⟩, a3⟩, a4⟩ := h1
    by_cases h2 : manB nx mk cl
    · have H2 := Lib.hid h2
      unfold manB at h2
      obtain ⟨⟨⟨b1, b2⟩, b3, b4⟩, b5, b6⟩ := h2
      have HA := Lib.hid ((hA.below hb0).mono (B' := w.heap.size + 1) (by omega))
      have HB := Lib.hid (hB.below hb0)
      have Hfin : Hid (∀ x y, segsR ns segs = x → prodsR nx prods = y → manR id ns nx mk cl segs prods = (x && y)) := fun x y hx hy => by
        rw [manR, decide_eq_true H1.out, decide_eq_true H2.out, hx, hy]; rfl
      cases hs : segsR ns segs with
      | false =>
        have Hs := Lib.hid hs
        clear hs
        go_enter Try.func9, Try.ntmps9
        go_wp2_with (first
          | (go_at_call 38; refine (within_any _ _ _ _).mono ?_; rintro e w' ⟨rfl, rfl⟩)
          | (go_at_call 39; refine (segsRight_any id ns nx mk cl A c segs _ _ (by simpa using HA.out) hw).mono ?_; rintro e w1 ⟨rfl, hb1⟩; rw [Hs.out]))
        go_ret
        exact ⟨ret_int (manE_bad (by rw [Hfin.out _ _ Hs.out rfl]; rfl)), hb0.trans (hb1.mono (by simp))⟩
      | true =>
        have Hs := Lib.hid hs
        clear hs
        cases hp : prodsR nx prods
        all_goals
          have Hp := Lib.hid hp
          clear hp
          go_enter Try.func9, Try.ntmps9
          go_wp2_with (first
            | (go_at_call 38; refine (within_any _ _ _ _).mono ?_; rintro e w' ⟨rfl, rfl⟩)
            | (go_at_call 39; refine (segsRight_any id ns nx mk cl A c segs _ _ (by simpa using HA.out) hw).mono ?_; rintro e w1 ⟨rfl, hb1⟩; rw [Hs.out]; have hcw : ∀ i, w1.cell? ⟨w.heap.size, i, none⟩ = _ := fun i => hb1.cell (p := ⟨w.heap.size, i, none⟩) (by simp))
            | (go_at_call 40; refine (prodsRight_any id ns nx mk cl B d prods _ _ b1 b2 (((HB.out.below (hb1.mono (by simp))).mono (by have := hb1.size; simp at this; omega)))).mono ?_; rintro e w2 ⟨rfl, hb2⟩; rw [Hp.out]))
          go_ret
          have hbx := hb0.trans ((hb1.mono (by simp)).trans (hb2.mono (by have := hb1.size; simp at this; omega)))
          first
            | exact ⟨ret_int (manE_bad (by rw [Hfin.out _ _ Hs.out Hp.out]; rfl)), hbx⟩
            | exact ⟨ret_int (manE_good (by rw [Hfin.out _ _ Hs.out Hp.out]; rfl)), hbx⟩
    · have Hbad := Lib.hid (show manR id ns nx mk cl segs prods = false by rw [manR, decide_eq_false h2, Bool.and_false]; rfl)
      have H2 := Lib.hid h2
      clear h2
      go_enter Try.func9, Try.ntmps9
      go_wp2_with (go_at_call 38; refine (within_any _ _ _ _).mono ?_; rintro e w' ⟨rfl, rfl⟩)
      all_goals first
        | (go_ret; exact ⟨ret_int (manE_bad Hbad.out), hb0⟩)
        | (exfalso; apply H2.out; unfold manB; simp at *; omega)
  · have Hbad := Lib.hid (show manR id ns nx mk cl segs prods = false by rw [manR, decide_eq_false h1]; rfl)
    have H1 := Lib.hid h1
    clear h1
    go_enter Try.func9, Try.ntmps9
    go_wp2_with fail
    all_goals first
      | (go_ret; exact ⟨ret_int (manE_bad Hbad.out), hb0⟩)
      | (exfalso; apply H1.out; unfold manA; simp at *; omega)

set_option maxRecDepth 100000 in
set_option maxHeartbeats 2000000 in
theorem refCheck_any (id ns nx mk cl : Int) (A B : Option Addr) (c d : Nat) (segs : List Int) (prods : List P3) (w : World) (hA : Rd w w.heap.size A (segs.map (.int .i64))) (hB : Rd w w.heap.size B (prods.flatMap tri)) :
    Calls Try.prog 15 #[.agg #[.int .i64 id, .int .i64 ns, .int .i64 nx, .int .i64 mk, .int .i64 cl, .slice A segs.length c, .slice B prods.length d]] w fun e w' =>
      e = .returned (.int .i64 (manE id ns nx mk cl segs prods)) ∧ Below w.heap.size w w' := by
  have hb0 : Below w.heap.size w (w.alloc (.cells #[.int .i64 id, .int .i64 ns, .int .i64 nx, .int .i64 mk, .int .i64 cl, .slice A segs.length c, .slice B prods.length d] 25)) := (Below.refl _ _).alloc (Nat.le_refl _) _
  by_cases h1 : manA id ns
  · have H1 := Lib.hid h1
    unfold manA at h1
    obtain ⟨⟨⟨a1, a2⟩, a3⟩, a4⟩ := h1
    by_cases h2 : manB nx mk cl
    · have H2 := Lib.hid h2
      unfold manB at h2
      obtain ⟨⟨⟨b1, b2⟩, b3, b4⟩, b5, b6⟩ := h2
      have HA := Lib.hid ((hA.below hb0).mono (B' := w.heap.size + 1) (by omega))
      have HB := Lib.hid (hB.below hb0)
      have Hfin : Hid (∀ x y, segsR ns segs = x → prodsR nx prods = y → manR id ns nx mk cl segs prods = (x && y)) := fun x y hx hy => by
        rw [manR, decide_eq_true H1.out, decide_eq_true H2.out, hx, hy]; rfl
      cases hs : segsR ns segs with
      | false =>
        have Hs := Lib.hid hs
        clear hs
        go_enter Try.func15, Try.ntmps15
        go_wp2_with (first
          | (go_at_call 42; refine (refWithin_any _ _ _ _).mono ?_; rintro e w' ⟨rfl, rfl⟩)
          | (go_at_call 43; refine (refSegsRight_any id ns nx mk cl A c segs _ _ (by simpa using HA.out)).mono ?_; rintro e w1 ⟨rfl, hb1⟩; rw [Hs.out]))
        go_ret
        exact ⟨ret_int (manE_bad (by rw [Hfin.out _ _ Hs.out rfl]; rfl)), hb0.trans (hb1.mono (by simp))⟩
      | true =>
        have Hs := Lib.hid hs
        clear hs
        cases hp : prodsR nx prods
        all_goals
          have Hp := Lib.hid hp
          clear hp
          go_enter Try.func15, Try.ntmps15
          go_wp2_with (first
            | (go_at_call 42; refine (refWithin_any _ _ _ _).mono ?_; rintro e w' ⟨rfl, rfl⟩)
            | (go_at_call 43; refine (refSegsRight_any id ns nx mk cl A c segs _ _ (by simpa using HA.out)).mono ?_; rintro e w1 ⟨rfl, hb1⟩; rw [Hs.out]; have hcw : ∀ i, w1.cell? ⟨w.heap.size, i, none⟩ = _ := fun i => hb1.cell (p := ⟨w.heap.size, i, none⟩) (by simp))
            | (go_at_call 44; refine (refProdsRight_any id ns nx mk cl B d prods _ _ b1 b2 (((HB.out.below (hb1.mono (by simp))).mono (by have := hb1.size; simp at this; omega)))).mono ?_; rintro e w2 ⟨rfl, hb2⟩; rw [Hp.out]))
          go_ret
          have hbx := hb0.trans ((hb1.mono (by simp)).trans (hb2.mono (by have := hb1.size; simp at this; omega)))
          first
            | exact ⟨ret_int (manE_bad (by rw [Hfin.out _ _ Hs.out Hp.out]; rfl)), hbx⟩
            | exact ⟨ret_int (manE_good (by rw [Hfin.out _ _ Hs.out Hp.out]; rfl)), hbx⟩
    · have Hbad := Lib.hid (show manR id ns nx mk cl segs prods = false by rw [manR, decide_eq_false h2, Bool.and_false]; rfl)
      have H2 := Lib.hid h2
      clear h2
      go_enter Try.func15, Try.ntmps15
      go_wp2_with (go_at_call 42; refine (refWithin_any _ _ _ _).mono ?_; rintro e w' ⟨rfl, rfl⟩)
      all_goals first
        | (go_ret; exact ⟨ret_int (manE_bad Hbad.out), hb0⟩)
        | (exfalso; apply H2.out; unfold manB; simp at *; omega)
  · have Hbad := Lib.hid (show manR id ns nx mk cl segs prods = false by rw [manR, decide_eq_false h1]; rfl)
    have H1 := Lib.hid h1
    clear h1
    go_enter Try.func15, Try.ntmps15
    go_wp2_with fail
    all_goals first
      | (go_ret; exact ⟨ret_int (manE_bad Hbad.out), hb0⟩)
      | (exfalso; apply H1.out; unfold manA; simp at *; omega)
end Go.Proofs.Ytjgdjfmgkmegfaa
