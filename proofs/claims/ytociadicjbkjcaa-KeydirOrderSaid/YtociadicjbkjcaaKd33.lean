import Derived.Test.YtociadicjbkjcaaKd32
import Derived.Test.YtociadicjbkjcaaKd17
/- KeydirNone: the law of the program, walked (it takes nothing). -/
namespace Go.Proofs.Ytociadicjbkjcaa
open Go.RowKit Go.Maps Go.Shelf

def keyX : ByteArray := ⟨#[97]⟩
def entS : En := ⟨1, 0, 0, 0, 0, false⟩
set_option maxRecDepth 100000 in
set_option maxHeartbeats 4000000 in
theorem put_nild (w : World) : Calls Try.prog 21 #[.pointer none, .string ⟨#[97]⟩, .agg #[.int .i64 1, .int .i64 0, .int .i64 0, .int .i64 0, .int .i64 0, .bool false]] w fun e w' =>
    e = .returned (.tuple #[.agg #[.int .i64 0, .int .i64 0, .int .i64 0, .int .i64 0, .int .i64 0, .bool false], .bool false, .int .i64 1]) ∧ Below w.heap.size w w' := by
  have hb0 : Below w.heap.size w ((w.alloc (.cells #[.int .i64 1, .int .i64 0, .int .i64 0, .int .i64 0, .int .i64 0, .bool false] 26)).alloc (.cells #[.int .i64 0, .int .i64 0, .int .i64 0, .int .i64 0, .int .i64 0, .bool false] 26)) := ((Below.refl _ _).alloc (Nat.le_refl _) _).alloc (by simp) _
  have hX1 := Box.new (w.alloc (.cells #[.int .i64 1, .int .i64 0, .int .i64 0, .int .i64 0, .int .i64 0, .bool false] 26)) 26 #[.int .i64 0, .int .i64 0, .int .i64 0, .int .i64 0, .int .i64 0, .bool false]
  rw [World.size_alloc] at hX1
  have hc := hX1.cell
  have hf := hX1.free
  have HB := Lib.hid hb0
  clear hb0 hX1
  go_enter Try.func21, Try.ntmps21
  go_wp2_with (first
    | (go_at_call 35
       refine (refused_nil ⟨#[97]⟩ _).mono ?_
       rintro e w' ⟨rfl, rfl⟩))
  refine bodyPost_ret (v := .tuple #[En.zero.v, .bool false, .int .i64 1]) ?_ rfl ?_
  · simp [results, Try.results21, go_sem, hc, En.zero]
  refine ⟨rfl, ?_⟩
  repeat (first | with_reducible exact HB.out | refine Below.setCell ?_ (by simp) _)
set_option maxRecDepth 100000 in
theorem note_nil (w : World) : Calls Try.prog 10 #[.pointer none, .string ⟨#[97]⟩, .agg #[.int .i64 1, .int .i64 0, .int .i64 0, .int .i64 0, .int .i64 0, .bool false]] w fun e w' =>
    e = .returned (.tuple #[.bool false, .int .i64 1]) ∧ Below w.heap.size w w' := by
  have HB := Lib.hid (bal w (.cells #[.int .i64 1, .int .i64 0, .int .i64 0, .int .i64 0, .int .i64 0, .bool false] 26))
  go_enter Try.func10, Try.ntmps10
  go_wp2_with (first
    | (go_at_call 35
       refine (refused_nil ⟨#[97]⟩ _).mono ?_
       rintro e w' ⟨rfl, rfl⟩))
  go_ret2
  exact ⟨rfl, HB.out⟩
set_option maxRecDepth 100000 in
theorem freeze_nil (w : World) : Calls Try.prog 20 #[.pointer none] w fun e w' => e = .returned (.pointer none) ∧ w = w' := by
  go_enter Try.func20, Try.ntmps20
  go_wp2
  go_ret
  exact ⟨rfl, rfl⟩
theorem hn0 : getL keyX [] = none := rfl
theorem hn1 : putL keyX entS [] = [(keyX, entS)] := rfl
theorem hn2 : getL keyX [(keyX, entS)] = some entS := by decide
theorem put0 (d : Nat) (w : World) (h : DR w d []) : Calls Try.prog 21 #[.pointer (some ⟨d, 0, none⟩), .string ⟨#[97]⟩, .agg #[.int .i64 1, .int .i64 0, .int .i64 0, .int .i64 0, .int .i64 0, .bool false]] w fun e w' =>
    e = .returned (.tuple #[.agg #[.int .i64 0, .int .i64 0, .int .i64 0, .int .i64 0, .int .i64 0, .bool false], .bool false, .int .i64 0]) ∧ DR w' d [(keyX, entS)] ∧ Dch d w w' := put_ok d keyX entS [] w h (by decide) (by simp)
theorem get0 (d : Nat) (w : World) (h : DR w d [(keyX, entS)]) : Calls Try.prog 14 #[.pointer (some ⟨d, 0, none⟩), .string ⟨#[97]⟩] w fun e w' =>
    e = .returned (.tuple #[.agg #[.int .i64 1, .int .i64 0, .int .i64 0, .int .i64 0, .int .i64 0, .bool false], .bool true]) ∧ Below w.heap.size w w' := by
  have := get_any d keyX [(keyX, entS)] w h (by decide)
  rwa [hn2] at this
theorem DTop.nil (w : World) : DTop w none none := .inl ⟨rfl, rfl⟩
theorem DR.dt {w : World} {d : Nat} (h : DR w d []) : DTop w (some ⟨d, 0, none⟩) none := by
  obtain ⟨t, p, h1, h2, h3, _, _⟩ := h
  cases t with
  | leaf => obtain rfl : p = none := h2
            exact .inr ⟨d, rfl, h1⟩
  | node k e l r => simp [Tn.flat] at h3

set_option maxRecDepth 100000 in
set_option maxHeartbeats 8000000 in
theorem keydirNone_any (w : World) : Calls Try.prog 8 #[] w fun e w' => e = .returned (.bool true) ∧ Below w.heap.size w w' := by
  go_enter Try.func8, Try.ntmps8
  go_wp2_with (first
    | (go_at_call 21
       (with_reducible refine (put_nild w).mono ?_)
       rintro e w1 ⟨rfl, hb1⟩
       have H1 := Lib.hid hb1
       clear hb1)
    | (go_at_call 10
       refine (note_nil _).mono ?_
       rintro e w2 ⟨rfl, hb2⟩
       have H2 := Lib.hid (bel3 H1.out (bal w1 (.cells #[.int .i64 0, .int .i64 0, .int .i64 0, .int .i64 0, .int .i64 0, .bool false] 26)) hb2)
       clear hb2)
    | (go_at_call 20
       refine (freeze_nil _).mono ?_
       rintro e w' ⟨rfl, rfl⟩)
    | (go_at_call 34
       (with_reducible refine (nothing_any none _ (DTop.nil _)).mono ?_)
       rintro e w3 ⟨rfl, hb3⟩
       have H3 := Lib.hid (H2.out.trans (hb3.mono H2.out.size))
       have hdz : DR (w3.alloc (.cells #[.pointer none] 64)) w3.heap.size [] := ⟨.leaf, none, Box.new w3 _ _, rfl, rfl, List.Pairwise.nil, fun x h => by cases h⟩
       have HDZ := Lib.hid hdz
       clear hb3 hdz)
    | (go_at_call 34
       (with_reducible refine (nothing_any (some ⟨w3.heap.size, 0, none⟩) _ ?_).mono ?_)
       · exact HDZ.out.dt
       rintro e w4 ⟨rfl, hb4⟩
       have H4 := Lib.hid (And.intro (bel3 H3.out (bal w3 (.cells #[.pointer none] 64)) hb4) (HDZ.out.next hb4))
       clear hb4)
    | (go_at_call 9
       refine (new_any _).mono ?_
       rintro e w5 ⟨rfl, hd5, hb5⟩
       have H5 := Lib.hid (And.intro (H4.out.1.trans (hb5.mono H4.out.1.size)) (And.intro (H4.out.2.next hb5) hd5))
       clear hb5 hd5)
    | (go_at_call 34
       (with_reducible refine (nothing_any (some ⟨w4.heap.size, 0, none⟩) _ ?_).mono ?_)
       · exact H5.out.2.2.dt
       rintro e w6 ⟨rfl, hb6⟩
       have H6 := Lib.hid (And.intro (H5.out.1.trans (hb6.mono H5.out.1.size)) (H5.out.2.1.next hb6))
       clear hb6)
    | (go_at_call 21
       (with_reducible refine (put0 w3.heap.size _ ?_).mono ?_)
       · exact H6.out.2
       rintro e w7 ⟨rfl, hd7, hc7⟩
       have H7 := Lib.hid (And.intro (dch_below H6.out.1 (Below.refl _ _) hc7 H3.out.size) hd7)
       clear hc7 hd7)
    | (go_at_call 14
       (with_reducible refine (get0 w3.heap.size _ ?_).mono ?_)
       · exact H7.out.2.next (bal w7 _)
       rintro e w8 ⟨rfl, hb8⟩
       have H8 := Lib.hid (bel3 H7.out.1 (bal w7 (.cells #[.int .i64 0, .int .i64 0, .int .i64 0, .int .i64 0, .int .i64 0, .bool false] 26)) hb8)
       clear hb8)
    | (go_at_call 17
       refine (head_any _).mono ?_
       rintro e w9 ⟨rfl, hb9⟩
       have H9 := Lib.hid (bel3 H8.out (bal w8 (.cells #[.int .i64 1, .int .i64 0, .int .i64 0, .int .i64 0, .int .i64 0, .bool false] 26)) hb9)
       clear hb9))
  go_ret
  exact ⟨rfl, H9.out⟩
end Go.Proofs.Ytociadicjbkjcaa
