import Derived.Test.YtjgdjfmgkmegfaaMan18
namespace Go.Proofs.Ytjgdjfmgkmegfaa
open Go.RowKit Go.Maps

/-- A number below 2^62; else the reader fails. -/
def nxS (l : List UInt8) (s : RSt) : Nat × RSt := if (uvS l s).1 < 4611686018427387904 then uvS l s else (0, badS l (uvS l s).2)
def cnS (most : Nat) (l : List UInt8) (s : RSt) : Nat × RSt := if (nxS l s).1 ≤ most then nxS l s else (0, badS l (nxS l s).2)
theorem uvS_fl0 {l : List UInt8} {s : RSt} (h : (uvS l s).2.fl = true) : (uvS l s).1 = 0 := by
  unfold uvS at h ⊢
  split
  · rfl
  · split
    · rename_i hx _ _ _ hr; rw [if_neg hx, hr] at h; cases h
    · rfl
theorem nxS_lt (l : List UInt8) (s : RSt) : (nxS l s).1 < 4611686018427387904 := by
  unfold nxS; split
  · assumption
  · show (0 : Nat) < 4611686018427387904; decide
theorem nxS_le {l : List UInt8} {s : RSt} (h : s.at_ ≤ l.length) : (nxS l s).2.at_ ≤ l.length := by
  unfold nxS; split
  · exact (uvS_le h).1
  · exact badS_le (uvS_le h).1
theorem nxS_fl0 {l : List UInt8} {s : RSt} (h : (nxS l s).2.fl = true) : (nxS l s).1 = 0 := by
  unfold nxS at h ⊢; split
  · rename_i hx; rw [if_pos hx] at h; exact uvS_fl0 h
  · rfl
theorem cnS_le (most : Nat) {l : List UInt8} {s : RSt} : (cnS most l s).1 ≤ most := by
  unfold cnS; split
  · assumption
  · exact Nat.zero_le _
theorem wrap_small {v : Nat} (h : v < 4611686018427387904) : wrap64 (v : Int) = v := by unfold wrap64; omega
theorem badS_new {l : List UInt8} {s : RSt} (h : s.fl = false) : badS l s = ⟨l.length, true⟩ := by unfold badS; rw [if_neg (by simp [h])]

set_option maxRecDepth 100000 in
set_option maxHeartbeats 2000000 in
theorem octNext (p : Nat) (l : List UInt8) (s : RSt) (w : World) (h : ORd w p l s) (hmx : l.length ≤ 140737488355328) :
    Calls Try.prog 55 #[.agg #[.pointer (some ⟨p, 0, none⟩)]] w fun e w' => e = .returned (.int .i64 (nxS l s).1) ∧ RAft p l (nxS l s).2 w w' := by
  have hpl := h.lt
  have hb := Below.refl w.heap.size w |>.alloc (Nat.le_refl _) (.cells #[.pointer (some ⟨p, 0, none⟩)] 79)
  have H := Lib.hid (h.below hb)
  have HX := Lib.hid (Box.new w 79 #[.pointer (some ⟨p, 0, none⟩)])
  have HB := Lib.hid hb
  have hlt := uvS_le h.le
  clear h hb
  rcases hu : uvS l s with ⟨v, s1⟩
  have Hu := Lib.hid hu
  rw [hu] at hlt
  have hv := hlt.2.2
  simp only at hv
  clear hu hlt
  by_cases hs : v < 4611686018427387904
  · have HN : Hid (nxS l s = (v, s1)) := by show nxS l s = (v, s1); unfold nxS; rw [Hu.out, if_pos hs]
    have HS := Lib.hid hs
    have hd : decide ((4611686018427387904 : Int) ≤ (v : Int)) = false := decide_eq_false (by omega)
    clear hs hv
    go_enter Try.func55, Try.ntmps55
    go_wp2_with (go_at_call 83; refine (octUv p l s _ H.out hmx).mono ?_; rintro e w1 ⟨he, ha⟩; rw [Hu.out] at he ha; simp only at he ha; subst he; have HA := Lib.hid ha; clear ha)
    go_ret
    rw [HN.out]
    exact ⟨ret_int (wrap_small HS.out), HA.out.1, ((Chg.refl (fun k => k = p) w).alloc _).trans HA.out.2⟩
  · have HN : Hid (nxS l s = (0, badS l s1)) := by show nxS l s = (0, badS l s1); unfold nxS; rw [Hu.out, if_neg hs]
    have hf1 : s1.fl = false := by
      cases hb : s1.fl with
      | false => rfl
      | true =>
        have := uvS_fl0 (l := l) (s := s) (by rw [Hu.out]; exact hb)
        rw [Hu.out] at this; simp only at this; omega
    have Hf1 := Lib.hid hf1
    have H72 : Hid ((72 : Int) ≠ 0) := by show (72 : Int) ≠ 0; decide
    have hd : decide ((4611686018427387904 : Int) ≤ (v : Int)) = true := decide_eq_true (by omega)
    clear hf1 hs hv
    go_enter Try.func55, Try.ntmps55
    go_wp2_with (first
      | (go_at_call 83; refine (octUv p l s _ H.out hmx).mono ?_; rintro e w1 ⟨he, ha⟩; rw [Hu.out] at he ha; simp only at he ha; subst he; have hX := HX.out.chg ha.2 (by omega); have hXc := hX.cell; have hXl := hX.lt; obtain ⟨b, cap, er, ea, hx⟩ := ha.1; have HA := Lib.hid (And.intro hx ha.2); clear ha hx hX)
      | (go_at_call 84; obtain ⟨at_, fl⟩ := s1; have hfl := Hf1.out; simp only at hfl; subst hfl; refine (octFail1 p b cap er ea _ l at_ _ HA.out.1 H72.out).mono ?_; rintro e w2 ⟨rfl, h2, h3⟩; have H2 := Lib.hid (And.intro h2 h3); clear h2 h3))
    go_ret
    rw [HN.out, badS_new rfl]
    exact ⟨rfl, ⟨_, _, _, _, H2.out.1⟩, (((Chg.refl (fun k => k = p) w).alloc _).trans HA.out.2).trans H2.out.2⟩

set_option maxRecDepth 100000 in
set_option maxHeartbeats 2000000 in
theorem octCount (p most : Nat) (hm : most ≤ 1000000) (l : List UInt8) (s : RSt) (w : World) (h : ORd w p l s) (hmx : l.length ≤ 140737488355328) :
    Calls Try.prog 56 #[.agg #[.pointer (some ⟨p, 0, none⟩)], .int .i64 most] w fun e w' => e = .returned (.int .i64 (cnS most l s).1) ∧ RAft p l (cnS most l s).2 w w' := by
  have hpl := h.lt
  have hb := Below.refl w.heap.size w |>.alloc (Nat.le_refl _) (.cells #[.pointer (some ⟨p, 0, none⟩)] 79)
  have H := Lib.hid (h.below hb)
  have HX := Lib.hid (Box.new w 79 #[.pointer (some ⟨p, 0, none⟩)])
  have HB := Lib.hid hb
  have hlt := nxS_lt l s
  clear h hb
  rcases hu : nxS l s with ⟨v, s1⟩
  have Hu := Lib.hid hu
  rw [hu] at hlt
  have hv := hlt
  simp only at hv
  clear hu hlt
  by_cases hs : v ≤ most
  · have HN : Hid (cnS most l s = (v, s1)) := by show cnS most l s = (v, s1); unfold cnS; rw [Hu.out, if_pos hs]
    have hd : decide (most < v) = false := decide_eq_false (by omega)
    clear hv
    go_enter Try.func56, Try.ntmps56
    go_wp2_with (go_at_call 55; refine (octNext p l s _ H.out hmx).mono ?_; rintro e w1 ⟨he, ha⟩; rw [Hu.out] at he ha; simp only at he ha; subst he; have HA := Lib.hid ha; clear ha)
    go_ret
    rw [HN.out]
    exact ⟨rfl, HA.out.1, ((Chg.refl (fun k => k = p) w).alloc _).trans HA.out.2⟩
  · have HN : Hid (cnS most l s = (0, badS l s1)) := by show cnS most l s = (0, badS l s1); unfold cnS; rw [Hu.out, if_neg hs]
    have hd : decide (most < v) = true := decide_eq_true (by omega)
    have hf1 : s1.fl = false := by
      cases hb : s1.fl with
      | false => rfl
      | true =>
        have := nxS_fl0 (l := l) (s := s) (by rw [Hu.out]; exact hb)
        rw [Hu.out] at this; simp only at this; omega
    have Hf1 := Lib.hid hf1
    have H72 : Hid ((72 : Int) ≠ 0) := by show (72 : Int) ≠ 0; decide
    clear hf1 hv
    go_enter Try.func56, Try.ntmps56
    go_wp2_with (first
      | (go_at_call 55; refine (octNext p l s _ H.out hmx).mono ?_; rintro e w1 ⟨he, ha⟩; rw [Hu.out] at he ha; simp only at he ha; subst he; have hX := HX.out.chg ha.2 (by omega); have hXc := hX.cell; have hXl := hX.lt; obtain ⟨b, cap, er, ea, hx⟩ := ha.1; have HA := Lib.hid (And.intro hx ha.2); clear ha hx hX)
      | (go_at_call 84; obtain ⟨at_, fl⟩ := s1; have hfl := Hf1.out; simp only at hfl; subst hfl; refine (octFail1 p b cap er ea _ l at_ _ HA.out.1 H72.out).mono ?_; rintro e w2 ⟨rfl, h2, h3⟩; have H2 := Lib.hid (And.intro h2 h3); clear h2 h3))
    go_ret
    rw [HN.out, badS_new rfl]
    exact ⟨rfl, ⟨_, _, _, _, H2.out.1⟩, (((Chg.refl (fun k => k = p) w).alloc _).trans HA.out.2).trans H2.out.2⟩
end Go.Proofs.Ytjgdjfmgkmegfaa
