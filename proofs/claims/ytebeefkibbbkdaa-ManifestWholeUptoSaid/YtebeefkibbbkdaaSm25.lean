import Derived.Test.YtebeefkibbbkdaaSm24
/- What a disk tells of itself: Used, Quota, Ops, Dead. -/
namespace Go.Proofs.Ytebeefkibbbkdaa
open Go.RowKit Go.Maps

set_option maxRecDepth 100000 in
theorem tell_Used (S : Nat → Prop) (d : Nat) (s : Dk) (w : World) (h : Disk w S d s) : Calls Try.prog 49 #[.pointer (some ⟨d, 0, none⟩)] w fun e w' => e = .returned (.int .i64 s.used) ∧ w' = w := by
  obtain ⟨_, ms, mf, vc, hb⟩ := h.at_
  have hc := hb.cell 4
  clear h
  go_enter Try.func49, Try.ntmps49
  go_wp2
  go_ret
  exact ⟨rfl, rfl⟩
set_option maxRecDepth 100000 in
theorem tell_Quota (S : Nat → Prop) (d : Nat) (s : Dk) (w : World) (h : Disk w S d s) : Calls Try.prog 51 #[.pointer (some ⟨d, 0, none⟩)] w fun e w' => e = .returned (.int .i64 s.quota) ∧ w' = w := by
  obtain ⟨_, ms, mf, vc, hb⟩ := h.at_
  have hc := hb.cell 3
  clear h
  go_enter Try.func51, Try.ntmps51
  go_wp2
  go_ret
  exact ⟨rfl, rfl⟩
set_option maxRecDepth 100000 in
theorem tell_Ops (S : Nat → Prop) (d : Nat) (s : Dk) (w : World) (h : Disk w S d s) : Calls Try.prog 55 #[.pointer (some ⟨d, 0, none⟩)] w fun e w' => e = .returned (.int .i64 s.ops) ∧ w' = w := by
  obtain ⟨_, ms, mf, vc, hb⟩ := h.at_
  have hc := hb.cell 7
  clear h
  go_enter Try.func55, Try.ntmps55
  go_wp2
  go_ret
  exact ⟨rfl, rfl⟩
set_option maxRecDepth 100000 in
theorem tell_Dead (S : Nat → Prop) (d : Nat) (s : Dk) (w : World) (h : Disk w S d s) : Calls Try.prog 53 #[.pointer (some ⟨d, 0, none⟩)] w fun e w' => e = .returned (.bool s.dead) ∧ w' = w := by
  obtain ⟨_, ms, mf, vc, hb⟩ := h.at_
  have hc := hb.cell 6
  clear h
  go_enter Try.func53, Try.ntmps53
  go_wp2
  go_ret
  exact ⟨rfl, rfl⟩
def setQuotaE (q : Int) : Int := if 0 ≤ q ∧ q ≤ 1073741824 then 0 else 3
def setQuotaS (q : Int) (s : Dk) : Dk := if 0 ≤ q ∧ q ≤ 1073741824 then { s with quota := q } else s
set_option maxRecDepth 100000 in
set_option maxHeartbeats 4000000 in
theorem setQuota_any (S : Nat → Prop) (d : Nat) (s : Dk) (q : Int) (w : World) (h : Disk w S d s) : Calls Try.prog 62 #[.pointer (some ⟨d, 0, none⟩), .int .i64 q] w fun e w' => e = .returned (.int .i64 (setQuotaE q)) ∧ Did w w' S d (setQuotaS q s) := by
  obtain ⟨L, fb, ms, mf, vc, hD, hS⟩ := id h
  have hxb := hD.box
  have hxc := hxb.cell 3
  have hxf := hxb.free 3
  have hxl := hxb.lt
  have H := Lib.hid (And.intro h (And.intro hD hS))
  clear h hD hS hxb
  by_cases hq : 0 ≤ q ∧ q ≤ 1073741824
  · have hd := Lib.hid (show qOk q = true from decide_eq_true hq)
    have HE := Lib.hid (show setQuotaE q = 0 ∧ setQuotaS q s = { s with quota := q } by simp [setQuotaE, setQuotaS, hq])
    clear hq
    go_enter Try.func62, Try.ntmps62
    go_wp2_with (go_at_call 42; refine (goodQuota_any q _).mono ?_; rintro e w1 ⟨rfl, hw⟩; have hw1 := hw.symm; subst hw1; rw [hd.out])
    go_ret
    rw [HE.out.1, HE.out.2]
    refine ⟨rfl, did_of (H.out.2.1.dx (chg_at (Chg.refl _ _) 3 (.int .i64 q)) (q := (q, s.used, s.fuse, s.dead, s.ops)) (by simpa using H.out.2.1.box.set_ 3 (.int .i64 q))) ((Chg.refl S w).setCell (.inl ((H.out.2.2 d).2 (by rw [H.out.2.1.ld]; omega))) _) fun b _ hb => (H.out.2.2 b).2 hb⟩
  · have hd := Lib.hid (show qOk q = false from decide_eq_false hq)
    have HE := Lib.hid (show setQuotaE q = 3 ∧ setQuotaS q s = s by simp [setQuotaE, setQuotaS, hq])
    clear hq
    go_enter Try.func62, Try.ntmps62
    go_wp2_with (go_at_call 42; refine (goodQuota_any q _).mono ?_; rintro e w1 ⟨rfl, hw⟩; have hw1 := hw.symm; subst hw1; rw [hd.out])
    go_ret
    rw [HE.out.1, HE.out.2]
    exact ⟨rfl, Did.same H.out.1 (Below.refl _ _)⟩
def fuseS (n : Int) (s : Dk) : Dk := if s.dead = true then s else { s with fuse := max n (-1) }
set_option maxRecDepth 100000 in
set_option maxHeartbeats 4000000 in
theorem fuse_any (S : Nat → Prop) (d : Nat) (s : Dk) (n : Int) (w : World) (h : Disk w S d s) : Calls Try.prog 8 #[.pointer (some ⟨d, 0, none⟩), .int .i64 n] w fun e w' => e = .returned (.tuple #[]) ∧ Did w w' S d (fuseS n s) := by
  obtain ⟨L, fb, ms, mf, vc, hD, hS⟩ := id h
  have hxb := hD.box
  have hx6 := hxb.cell 6
  have hxc := hxb.cell 5
  have hxf := hxb.free 5
  have hxl := hxb.lt
  have H := Lib.hid (And.intro h (And.intro hD hS))
  clear h hD hS hxb
  cases hd : s.dead
  · rw [hd] at hx6
    obtain ⟨m, hm⟩ : ∃ m, max n (-1) = m := ⟨_, rfl⟩
    have HE := Lib.hid (show fuseS n s = { s with fuse := m } by simp [fuseS, hd, hm])
    clear hd
    go_enter Try.func8, Try.ntmps8
    go_wp2
    go_end0
    rw [HE.out]
    refine ⟨rfl, did_of (H.out.2.1.dx (chg_at (Chg.refl _ _) 5 (.int .i64 m)) (q := (s.quota, s.used, m, s.dead, s.ops)) (by simpa using H.out.2.1.box.set_ 5 (.int .i64 m))) ((Chg.refl S w).setCell (.inl ((H.out.2.2 d).2 (by rw [H.out.2.1.ld]; omega))) _) fun b _ hb => (H.out.2.2 b).2 hb⟩
  · rw [hd] at hx6
    have HE := Lib.hid (show fuseS n s = s by simp [fuseS, hd])
    clear hd
    go_enter Try.func8, Try.ntmps8
    go_wp2
    go_end0
    rw [HE.out]
    exact ⟨rfl, Did.same H.out.1 (Below.refl _ _)⟩
end Go.Proofs.Ytebeefkibbbkdaa
