import Derived.Test.YtebeefkibbbkdaaSm25
/- List. -/
namespace Go.Proofs.Ytebeefkibbbkdaa
open Go.RowKit Go.Maps

set_option maxRecDepth 100000 in
set_option maxHeartbeats 4000000 in
theorem list_any (S : Nat → Prop) (d N : Nat) (s : Dk) (w : World) (h : Disk w S d s) (hsz : s.Sz N 140737488355328) (hN : N ≤ 999999999999) (hd : s.dead = false) : Calls Try.prog 100 #[.pointer (some ⟨d, 0, none⟩)] w fun e w' => ∃ bb cap, e = .returned (.tuple #[.slice bb s.seen.length cap, .int .i64 0]) ∧ w'.ownsRow w.heap.size 9 1 (.slice bb s.seen.length cap) s.seen.length (s.seen.map fun p => .string p.1) ∧ Below w.heap.size w w' := by
  obtain ⟨L, fb, ms, mf, vc, hD, hS⟩ := id h
  have hxc := hD.box.cell 0
  have hlen : s.seen.length ≤ 999999999999 := by have h1 := fold_len s.dchs s.safe; have h2 := hsz.d; unfold Dk.seen; omega
  have H := Lib.hid (And.intro h (And.intro hD.seen (And.intro hlen hd)))
  clear h hD hS hsz hlen hd
  go_enter Try.func100, Try.ntmps100
  go_wp2_with (first
    | (go_at_call 81
       refine (ready_any S d s _ H.out.1).mono ?_
       rintro e w1 ⟨rfl, hw⟩
       have hw1 := hw.symm
       subst hw1
       rw [if_neg (by rw [H.out.2.2.2]; decide)])
    | (go_at_call 40
       refine (rising_any ms (s.seen.map (bk fb)) _ H.out.2.1 (by rw [List.length_map]; exact H.out.2.2.1)).mono ?_
       rintro e w2 ⟨bb, cap, rfl, hr, hb⟩
       have H2 := Lib.hid (And.intro hr hb)
       clear hr hb))
  go_ret2
  have hr := H2.out.1
  rw [List.length_map, List.map_map] at hr
  exact ⟨bb, cap, rfl, hr, H2.out.2⟩
end Go.Proofs.Ytebeefkibbbkdaa
