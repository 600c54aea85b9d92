import Derived.Test.YtlgbffgilgnafaaMem
import Derived.Test.YtlgbffgilgnafaaRows
/- CursorNil: nil topics and nil readers: the law walked. -/
namespace Go.Proofs.Ytlgbffgilgnafaa
open Go.RowKit Go.Maps

set_option maxRecDepth 100000 in
theorem next_nil (a b : Int) (w : World) :
    Calls Try.prog 8 #[.pointer none, .int .i64 a, .int .i64 b] w fun e w' => e = .returned (.tuple #[.agg #[.slice none 0 0, .int .i64 0, .int .i64 0], .int .i64 1]) ∧ Below w.heap.size w w' := by
  go_enter Try.func8, Try.ntmps8
  go_wp2
  refine bodyPost_ret (v := .tuple #[.agg #[.slice none 0 0, .int .i64 0, .int .i64 0], .int .i64 1]) ?_ rfl ?_
  · simp [results, Try.results8, go_sem]
  refine ⟨rfl, ?_⟩
  repeat (first | exact Below.refl _ _ | refine Below.setCell ?_ (by simp) _ | refine Below.alloc ?_ (by simp) _)

set_option maxRecDepth 100000 in
theorem snext_nil (a b : Int) (w : World) :
    Calls Try.prog 9 #[.pointer none, .int .i64 a, .int .i64 b] w fun e w' => e = .returned (.tuple #[.slice none 0 0, .int .i64 0, .int .i64 1]) ∧ w = w' := by
  go_enter Try.func9, Try.ntmps9
  go_wp2
  go_ret3
  exact ⟨rfl, rfl⟩

set_option maxRecDepth 100000 in
theorem pos_nil (w : World) : Calls Try.prog 10 #[.pointer none] w fun e w' => e = .returned (.int .i64 0) ∧ w' = w := by
  go_enter Try.func10, Try.ntmps10
  go_wp2
  go_ret
  exact ⟨rfl, rfl⟩
set_option maxRecDepth 100000 in
theorem state_nil (w : World) : Calls Try.prog 11 #[.pointer none] w fun e w' => e = .returned (.int .i64 3) ∧ w' = w := by
  go_enter Try.func11, Try.ntmps11
  go_wp2
  go_ret
  exact ⟨rfl, rfl⟩
set_option maxRecDepth 100000 in
theorem waits_nil (w : World) : Calls Try.prog 12 #[.pointer none] w fun e w' => e = .returned (.bool false) ∧ ∃ n, w' = w.drewN n := by
  go_enter Try.func12, Try.ntmps12
  go_wp2
  go_quiet ((go_at_call 11; exact Calls.quiet_of_same (state_nil _)))
  go_wp2
  go_ret
  exact ⟨rfl, _, rfl⟩
set_option maxRecDepth 100000 in
theorem close_nil (w : World) : Calls Try.prog 13 #[.pointer none] w fun e w' => e = .returned (.int .i64 1) ∧ w' = w := by
  go_enter Try.func13, Try.ntmps13
  go_wp2
  go_ret
  exact ⟨rfl, rfl⟩
set_option maxRecDepth 100000 in
theorem mom_nil (w : World) : Calls Try.prog 14 #[.pointer none] w fun e w' => e = .returned (.int .i64 0) ∧ w' = w := by
  go_enter Try.func14, Try.ntmps14
  go_wp2
  go_ret
  exact ⟨rfl, rfl⟩
set_option maxRecDepth 100000 in
theorem sclose_nil (w : World) : Calls Try.prog 15 #[.pointer none] w fun e w' => e = .returned (.int .i64 1) ∧ w' = w := by
  go_enter Try.func15, Try.ntmps15
  go_wp2
  go_ret
  exact ⟨rfl, rfl⟩

set_option maxRecDepth 100000 in
set_option maxHeartbeats 4000000 in
theorem cursorNil_any (x most : Int) (p : ByteArray) (w : World) :
    Calls Try.prog 3 #[.int .i64 x, .int .i64 most, .string p] w fun e w' => e = .returned (.bool true) ∧ Below w.heap.size w w' := by
  go_enter Try.func3, Try.ntmps3
  go_wp2_with (first
    | (go_at_call 8
       refine (next_nil _ _ _).mono ?_
       rintro e w1 ⟨rfl, hb⟩)
    | (go_at_call 9
       refine (snext_nil _ _ _).mono ?_
       rintro e w1 ⟨rfl, rfl⟩)
    | go_in)
  go_quiet ((first | (go_at_call 10; exact Calls.quiet_of_same (pos_nil _)) | (go_at_call 11; exact Calls.quiet_of_same (state_nil _)) | (go_at_call 12; exact Calls.quiet_of (waits_nil _)) | (go_at_call 13; exact Calls.quiet_of_same (close_nil _)) | (go_at_call 14; exact Calls.quiet_of_same (mom_nil _)) | (go_at_call 15; exact Calls.quiet_of_same (sclose_nil _))))
  go_wp2
  go_ret
  refine ⟨rfl, ?_⟩
  exact below_drewN (hb.alloc hb.size _) _
end Go.Proofs.Ytlgbffgilgnafaa
