import Derived.Test.YtociadicjbkjcaaKd5
namespace Go.Proofs.Ytociadicjbkjcaa
open Go.RowKit Go.Maps

set_option maxRecDepth 100000 in
set_option maxHeartbeats 8000000 in
theorem with_any (key : ByteArray) (en : En) (hz : 1 ≤ key.size ∧ key.size ≤ 64) : ∀ (t : Tn) (p : Option Addr) (w : World), Tr w w.heap.size t p → Sorted t.flat → KeysOk t.flat → t.cnt ≤ 800000000000000 →
    Calls Try.prog 36 #[.pointer p, .string key, en.v] w (MT (putL key en t.flat) w) := by
  intro t
  induction t with
  | leaf =>
    intro p w h _ _ _
    obtain rfl : p = none := h
    have hb0 : Below w.heap.size w (w.alloc (.cells en.cells.toArray 26)) := (Below.refl _ _).alloc (Nat.le_refl _) _
    have HB := Lib.hid hb0
    have hE := (Box.new w 26 en.cells.toArray).cell
    clear hb0
    unfold En.cells at *
    go_enter Try.func36, Try.ntmps36
    go_wp2_with (first
      | (go_at_call 64; (with_reducible refine (join_any key en .leaf .leaf none none _ ?_ ?_ ?_ ?_).mono ?_); (exact rfl); (exact rfl); (simp [Tn.cnt, Tn.flat]); (simp [Tn.cnt, Tn.flat]); rintro e w1 ⟨t1, q1, rfl, f1, g1, b1⟩; have F1 := Lib.hid (And.intro f1 (And.intro g1 (HB.out.trans (b1.mono HB.out.size)))); clear f1 g1 b1))
    go_ret
    exact ⟨t1, q1, rfl, by rw [F1.out.1]; rfl, F1.out.2.1, F1.out.2.2⟩
  | node k0 e0 l r ihl ihr =>
    intro p w h hs hk hc
    obtain ⟨b, p1, p2, rfl, hb, h1, h2, hx⟩ := h.cells
    have hb0 : Below w.heap.size w (w.alloc (.cells en.cells.toArray 26)) := (Below.refl _ _).alloc (Nat.le_refl _) _
    have hE := Box.new w 26 en.cells.toArray
    have hT : ∀ W, Aft (w.alloc (.cells en.cells.toArray 26)) W → Tr W W.heap.size l p1 ∧ Tr W W.heap.size r p2 ∧ NC W b k0 e0 p1 p2 ∧ EC W w.heap.size en ∧ Below w.heap.size w W := fun W hW => by
      have hbW : Below w.heap.size w W := hb0.trans (Below.mono hW (by simp))
      exact ⟨h1.below hbW, h2.below hbW, NC.of (hx.below hbW hb), EC.of (hE.below hW (by simp)), hbW⟩
    have hS2 : Sorted (l.flat ++ (k0, e0) :: r.flat) := hs
    have hK2 : KeysOk (l.flat ++ (k0, e0) :: r.flat) := hk
    obtain ⟨s1, s2, _⟩ := hS2.parts
    obtain ⟨o1, o2, o3, o4⟩ := hK2.parts
    have HO := Lib.hid (And.intro (And.intro s1 o1) (And.intro (And.intro s2 o2) (And.intro hS2 o4)))
    have HCN := Lib.hid (Tn.cnt_node k0 e0 l r)
    obtain ⟨_, _, ⟨n0, n1, n2, n3, n4, n5, n6, n8, n9⟩, _⟩ := hT _ (Aft.refl _)
    have HT := Lib.hid hT
    clear h hs hk h1 h2 hx hb0 hE hT hS2 hK2 s1 s2 o1 o2 o3 o4
    change _ ≤ _ at hc
    unfold En.cells at *
    have hcnt := hc
    clear hc
    go_enter Try.func36, Try.ntmps36
    rcases kc_range key k0 with hc | hc | hc
    · go_wp2_with (first
        | (go_at_call 41; (with_reducible refine (cmp_is (sz64 hz.2) (sz64 HO.out.2.2.2) hc).mono ?_); rintro e w' ⟨rfl, nq, rfl⟩))
      generalize hW1 : World.drewN _ _ = W1
      have hA1 : Aft (w.alloc (.cells #[.int .i64 en.seg, .int .i64 en.at_, .int .i64 en.size, .int .i64 en.off, .int .i64 en.time, .bool en.tomb] 26)) W1 := by rw [← hW1]; exact (Aft.refl _).drewN
      obtain ⟨_, _, ⟨n0, n1, n2, n3, n4, n5, n6, n8, n9⟩, ⟨e0', e1', e2', e3', e4', e5'⟩, _⟩ := HT.out _ hA1
      clear hW1
      go_region_held3 (fun w' => w'.cell? ⟨b, 0, none⟩ = some (.string k0) ∧ w'.cell? ⟨b, 1, none⟩ = some (.int .i64 e0.seg) ∧ w'.cell? ⟨b, 2, none⟩ = some (.int .i64 e0.at_) ∧ w'.cell? ⟨b, 3, none⟩ = some (.int .i64 e0.size) ∧ w'.cell? ⟨b, 4, none⟩ = some (.int .i64 e0.off) ∧ w'.cell? ⟨b, 5, none⟩ = some (.int .i64 e0.time) ∧ w'.cell? ⟨b, 6, none⟩ = some (.bool e0.tomb) ∧ w'.cell? ⟨b, 8, none⟩ = some (.pointer p1) ∧ w'.cell? ⟨b, 9, none⟩ = some (.pointer p2) ∧ w'.cell? ⟨w.heap.size, 0, none⟩ = some (.int .i64 en.seg) ∧ w'.cell? ⟨w.heap.size, 1, none⟩ = some (.int .i64 en.at_) ∧ w'.cell? ⟨w.heap.size, 2, none⟩ = some (.int .i64 en.size) ∧ w'.cell? ⟨w.heap.size, 3, none⟩ = some (.int .i64 en.off) ∧ w'.cell? ⟨w.heap.size, 4, none⟩ = some (.int .i64 en.time) ∧ w'.cell? ⟨w.heap.size, 5, none⟩ = some (.bool en.tomb)) (go_keep)
        (first
          | (go_at_call 36; (with_reducible refine (ihl p1 _ ?_ ?_ ?_ ?_).mono ?_); (exact (HT.out _ hA1.drew).1); (exact HO.out.1.1); (exact HO.out.1.2); (have := HCN.out; omega); rintro e w1 ⟨t1, q1, rfl, f1, g1, b1⟩; have a1 : Aft _ w1 := Aft.next hA1.drew b1; have F1 := Lib.hid (And.intro f1 (And.intro g1 b1)); obtain ⟨_, _, ⟨z0, z1, z2, z3, z4, z5, z6, z8, z9⟩, ⟨y0, y1, y2, y3, y4, y5⟩, _⟩ := HT.out _  a1; clear f1 g1 b1)
          | (go_at_call 65; (with_reducible refine (even_any k0 e0 t1 r _ _ _ ?_ ?_ ?_).mono ?_); (exact F1.out.2.1); (exact (HT.out _ a1).2.1); (have := HCN.out; have := put_len key en l.flat; have := F1.out.1; unfold Tn.cnt at *; rw [this]; omega); rintro e w2 ⟨t2, q2, rfl, f2, g2, b2⟩; have a2 : Aft _ w2 := Aft.next a1 b2; have F2 := Lib.hid (And.intro f2 (And.intro g2 b2)); obtain ⟨_, _, ⟨z0, z1, z2, z3, z4, z5, z6, z8, z9⟩, ⟨y0, y1, y2, y3, y4, y5⟩, _⟩ := HT.out _  a2; clear f2 g2 b2))
      all_goals
        go_wp2
        go_ret
        exact ⟨t2, q2, rfl, by rw [F2.out.1, F1.out.1]; exact (put_less HO.out.2.2.1 hc).symm, F2.out.2.1, (HT.out _ a2).2.2.2.2⟩
    · obtain rfl := kc_eq hc
      go_wp2_with (first
        | (go_at_call 41; (with_reducible refine (cmp_is (sz64 hz.2) (sz64 HO.out.2.2.2) hc).mono ?_); rintro e w' ⟨rfl, nq, rfl⟩))
      generalize hW1 : World.drewN _ _ = W1
      have hA1 : Aft (w.alloc (.cells #[.int .i64 en.seg, .int .i64 en.at_, .int .i64 en.size, .int .i64 en.off, .int .i64 en.time, .bool en.tomb] 26)) W1 := by rw [← hW1]; exact (Aft.refl _).drewN
      obtain ⟨_, _, ⟨n0, n1, n2, n3, n4, n5, n6, n8, n9⟩, ⟨e0', e1', e2', e3', e4', e5'⟩, _⟩ := HT.out _ hA1
      clear hW1
      go_region_held3 (fun w' => w'.cell? ⟨b, 8, none⟩ = some (.pointer p1) ∧ w'.cell? ⟨b, 9, none⟩ = some (.pointer p2) ∧ w'.cell? ⟨w.heap.size, 0, none⟩ = some (.int .i64 en.seg) ∧ w'.cell? ⟨w.heap.size, 1, none⟩ = some (.int .i64 en.at_) ∧ w'.cell? ⟨w.heap.size, 2, none⟩ = some (.int .i64 en.size) ∧ w'.cell? ⟨w.heap.size, 3, none⟩ = some (.int .i64 en.off) ∧ w'.cell? ⟨w.heap.size, 4, none⟩ = some (.int .i64 en.time) ∧ w'.cell? ⟨w.heap.size, 5, none⟩ = some (.bool en.tomb)) (go_keep)
        (first
          | (go_at_call 64; (with_reducible refine (join_any key en l r _ _ _ ?_ ?_ ?_ ?_).mono ?_); (exact (HT.out _ hA1.drew).1); (exact (HT.out _ hA1.drew).2.1); (have := HCN.out; omega); (have := HCN.out; omega); rintro e w1 ⟨t1, q1, rfl, f1, g1, b1⟩; have a1 : Aft _ w1 := Aft.next hA1.drew b1; have F1 := Lib.hid (And.intro f1 (And.intro g1 b1)); obtain ⟨_, _, ⟨z0, z1, z2, z3, z4, z5, z6, z8, z9⟩, ⟨y0, y1, y2, y3, y4, y5⟩, _⟩ := HT.out _  a1; clear f1 g1 b1))
      all_goals
        go_wp2
        go_ret
        exact ⟨t1, q1, rfl, by rw [F1.out.1]; exact (put_same HO.out.2.2.1).symm, F1.out.2.1, (HT.out _ a1).2.2.2.2⟩
    · go_wp2_with (first
        | (go_at_call 41; (with_reducible refine (cmp_is (sz64 hz.2) (sz64 HO.out.2.2.2) hc).mono ?_); rintro e w' ⟨rfl, nq, rfl⟩))
      generalize hW1 : World.drewN _ _ = W1
      have hA1 : Aft (w.alloc (.cells #[.int .i64 en.seg, .int .i64 en.at_, .int .i64 en.size, .int .i64 en.off, .int .i64 en.time, .bool en.tomb] 26)) W1 := by rw [← hW1]; exact (Aft.refl _).drewN
      obtain ⟨_, _, ⟨n0, n1, n2, n3, n4, n5, n6, n8, n9⟩, ⟨e0', e1', e2', e3', e4', e5'⟩, _⟩ := HT.out _ hA1
      clear hW1
      go_region_held3 (fun w' => w'.cell? ⟨b, 0, none⟩ = some (.string k0) ∧ w'.cell? ⟨b, 1, none⟩ = some (.int .i64 e0.seg) ∧ w'.cell? ⟨b, 2, none⟩ = some (.int .i64 e0.at_) ∧ w'.cell? ⟨b, 3, none⟩ = some (.int .i64 e0.size) ∧ w'.cell? ⟨b, 4, none⟩ = some (.int .i64 e0.off) ∧ w'.cell? ⟨b, 5, none⟩ = some (.int .i64 e0.time) ∧ w'.cell? ⟨b, 6, none⟩ = some (.bool e0.tomb) ∧ w'.cell? ⟨b, 8, none⟩ = some (.pointer p1) ∧ w'.cell? ⟨b, 9, none⟩ = some (.pointer p2) ∧ w'.cell? ⟨w.heap.size, 0, none⟩ = some (.int .i64 en.seg) ∧ w'.cell? ⟨w.heap.size, 1, none⟩ = some (.int .i64 en.at_) ∧ w'.cell? ⟨w.heap.size, 2, none⟩ = some (.int .i64 en.size) ∧ w'.cell? ⟨w.heap.size, 3, none⟩ = some (.int .i64 en.off) ∧ w'.cell? ⟨w.heap.size, 4, none⟩ = some (.int .i64 en.time) ∧ w'.cell? ⟨w.heap.size, 5, none⟩ = some (.bool en.tomb)) (go_keep)
        (first
          | (go_at_call 36; (with_reducible refine (ihr p2 _ ?_ ?_ ?_ ?_).mono ?_); (exact (HT.out _ hA1.drew).2.1); (exact HO.out.2.1.1); (exact HO.out.2.1.2); (have := HCN.out; omega); rintro e w1 ⟨t1, q1, rfl, f1, g1, b1⟩; have a1 : Aft _ w1 := Aft.next hA1.drew b1; have F1 := Lib.hid (And.intro f1 (And.intro g1 b1)); obtain ⟨_, _, ⟨z0, z1, z2, z3, z4, z5, z6, z8, z9⟩, ⟨y0, y1, y2, y3, y4, y5⟩, _⟩ := HT.out _  a1; clear f1 g1 b1)
          | (go_at_call 65; (with_reducible refine (even_any k0 e0 l t1 _ _ _ ?_ ?_ ?_).mono ?_); (exact (HT.out _ a1).1); (exact F1.out.2.1); (have := HCN.out; have := put_len key en r.flat; have := F1.out.1; unfold Tn.cnt at *; rw [this]; omega); rintro e w2 ⟨t2, q2, rfl, f2, g2, b2⟩; have a2 : Aft _ w2 := Aft.next a1 b2; have F2 := Lib.hid (And.intro f2 (And.intro g2 b2)); obtain ⟨_, _, ⟨z0, z1, z2, z3, z4, z5, z6, z8, z9⟩, ⟨y0, y1, y2, y3, y4, y5⟩, _⟩ := HT.out _  a2; clear f2 g2 b2))
      all_goals
        go_wp2
        go_ret
        exact ⟨t2, q2, rfl, by rw [F2.out.1, F1.out.1]; exact (put_more HO.out.2.2.1 hc).symm, F2.out.2.1, (HT.out _ a2).2.2.2.2⟩
end Go.Proofs.Ytociadicjbkjcaa
