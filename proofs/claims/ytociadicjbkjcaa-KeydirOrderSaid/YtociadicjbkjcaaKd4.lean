import Derived.Test.YtociadicjbkjcaaKd3
namespace Go.Proofs.Ytociadicjbkjcaa
open Go.RowKit Go.Maps

set_option maxRecDepth 100000 in
set_option maxHeartbeats 4000000 in
/-- Neither tree is too heavy. -/
theorem even_c (k : ByteArray) (en : En) (l r : Tn) (p q : Option Addr) (w : World) (hl : Tr w w.heap.size l p) (hr : Tr w w.heap.size r q) (hc : l.cnt + r.cnt ≤ 900000000000000)
    (hh : ¬ 3 * (l.cnt + 1) < r.cnt + 1) (hg : ¬ 3 * (r.cnt + 1) < l.cnt + 1) :
    Calls Try.prog 65 #[.string k, en.v, .pointer p, .pointer q] w (MT (l.flat ++ (k, en) :: r.flat) w) := by
  have hb0 : Below w.heap.size w (w.alloc (.cells en.cells.toArray 26)) := (Below.refl _ _).alloc (Nat.le_refl _) _
  have hE := Box.new w 26 en.cells.toArray
  have hT : ∀ W, Aft (w.alloc (.cells en.cells.toArray 26)) W → Tr W W.heap.size l p ∧ Tr W W.heap.size r q ∧ EC W w.heap.size en ∧ Below w.heap.size w W := fun W hW => by
    have hbW : Below w.heap.size w W := hb0.trans (Below.mono hW (by simp))
    exact ⟨hl.below hbW, hr.below hbW, EC.of (hE.below hW (by simp)), hbW⟩
  have HT := Lib.hid hT
  clear hb0 hE hT hl hr
  unfold En.cells at *
  go_enter Try.func65, Try.ntmps65
  go_wp2
  go_quiet ((go_at_call 68; exact quiet_same1 (heavy_f (t := r) (u := l) (HT.out _ (Aft.refl _).drewN).2.1 (HT.out _ (Aft.refl _).drewN).1 (by omega) (by omega) hh)))
  generalize hW1 : World.drewN _ _ = W1
  have hA1 : Aft (w.alloc (.cells #[.int .i64 en.seg, .int .i64 en.at_, .int .i64 en.size, .int .i64 en.off, .int .i64 en.time, .bool en.tomb] 26)) W1 := by rw [← hW1]; exact (Aft.refl _).drewN
  clear hW1
  go_wp2_with (go_at_call 68; (with_reducible refine (heavy_f (t := r) (u := l) ?_ ?_ ?_ ?_ ?_).mono ?_); (exact (HT.out _ hA1).2.1); (exact (HT.out _ hA1).1); omega; omega; omega; rintro e w' ⟨rfl, rfl⟩)
  go_quiet ((go_at_call 68; exact quiet_same1 (heavy_f (t := l) (u := r) (HT.out _ hA1.drewN).1 (HT.out _ hA1.drewN).2.1 (by omega) (by omega) hg)))
  generalize hW2 : World.drewN _ _ = W2
  have hA2 : Aft (w.alloc (.cells #[.int .i64 en.seg, .int .i64 en.at_, .int .i64 en.size, .int .i64 en.off, .int .i64 en.time, .bool en.tomb] 26)) W2 := by rw [← hW2]; exact hA1.drewN
  obtain ⟨_, _, ⟨e0, e1, e2, e3, e4, e5⟩, _⟩ := HT.out _ hA2
  clear hW2
  go_wp2_with (first
    | (go_at_call 68; (with_reducible refine (heavy_f (t := l) (u := r) ?_ ?_ ?_ ?_ ?_).mono ?_); (exact (HT.out _ hA2).1); (exact (HT.out _ hA2).2.1); omega; omega; omega; rintro e w' ⟨rfl, rfl⟩)
    | (go_at_call 64; (with_reducible refine (join_any k en l r _ _ _ ?_ ?_ ?_ ?_).mono ?_); (exact (HT.out _ hA2).1); (exact (HT.out _ hA2).2.1); omega; omega; rintro e w3 ⟨t1, q1, rfl, f1, g1, b1⟩; have F1 := Lib.hid (And.intro f1 (And.intro g1 (Aft.next hA2 b1))); clear f1 g1 b1))
  go_ret
  exact ⟨t1, q1, rfl, F1.out.1, F1.out.2.1, (HT.out _ F1.out.2.2).2.2.2⟩
/-- even, whatever the trees weigh. -/
theorem even_any (k : ByteArray) (en : En) (l r : Tn) (p q : Option Addr) (w : World) (hl : Tr w w.heap.size l p) (hr : Tr w w.heap.size r q) (hc : l.cnt + r.cnt ≤ 900000000000000) :
    Calls Try.prog 65 #[.string k, en.v, .pointer p, .pointer q] w (MT (l.flat ++ (k, en) :: r.flat) w) := by
  by_cases hh : 3 * (l.cnt + 1) < r.cnt + 1
  · cases r with
    | leaf => simp [Tn.cnt, Tn.flat] at hh
    | node rk re rl rr =>
      obtain ⟨b, p1, p2, rfl, hb, h1, h2, hx⟩ := hr.cells
      have hcn := Tn.cnt_node rk re rl rr
      by_cases hi : 2 * (rr.cnt + 1) ≤ rl.cnt + 1
      · cases rl with
        | leaf => exact absurd hi (by simp [Tn.cnt, Tn.flat]; omega)
        | node mk me ml mr =>
          have h1' := h1
          obtain ⟨mb, m1, m2, rfl, _⟩ := h1'
          exact even_r2 k en l p rk re rr b p2 mk me ml mr mb w hl hb h1 h2 hx (by omega) (by omega) hi
      · exact even_r1 k en l p rk re rl rr b p1 p2 w hl hb h1 h2 hx (by omega) (by omega) hi
  · by_cases hg : 3 * (r.cnt + 1) < l.cnt + 1
    · cases l with
      | leaf => simp [Tn.cnt, Tn.flat] at hg
      | node lk le ll lr =>
        obtain ⟨b, p1, p2, rfl, hb, h1, h2, hx⟩ := hl.cells
        have hcn := Tn.cnt_node lk le ll lr
        by_cases hi : 2 * (ll.cnt + 1) ≤ lr.cnt + 1
        · cases lr with
          | leaf => exact absurd hi (by simp [Tn.cnt, Tn.flat]; omega)
          | node mk me ml mr =>
            have h2' := h2
            obtain ⟨mb, m1, m2, rfl, _⟩ := h2'
            exact even_l2 k en r q lk le ll b p1 mk me ml mr mb w hr hb h1 h2 hx (by omega) (by omega) hi
        · exact even_l1 k en r q lk le ll lr b p1 p2 w hr hb h1 h2 hx (by omega) (by omega) hi
    · exact even_c k en l r p q w hl hr hc hh hg
end Go.Proofs.Ytociadicjbkjcaa
