import Derived.Test.YtociadicjbkjcaaKd13
namespace Go.Proofs.Ytociadicjbkjcaa
open Go.RowKit Go.Maps

theorem box6 {W : World} {mb : Nat} {t : TypeId} {a0 a1 a2 a3 a4 a5 : Value} (h : Box W mb t #[a0, a1, a2, a3, a4, a5]) (b0 b1 b2 b3 b4 b5 : Value) :
    Box ((((((W.setCell ⟨mb, 0, none⟩ b0).setCell ⟨mb, 1, none⟩ b1).setCell ⟨mb, 2, none⟩ b2).setCell ⟨mb, 3, none⟩ b3).setCell ⟨mb, 4, none⟩ b4).setCell ⟨mb, 5, none⟩ b5) mb t #[b0, b1, b2, b3, b4, b5] := by
  simpa using (((((h.set_ 0 b0).set_ 1 b1).set_ 2 b2).set_ 3 b3).set_ 4 b4).set_ 5 b5

set_option maxRecDepth 100000 in
set_option maxHeartbeats 8000000 in
theorem rem_yes (d : Nat) (key : ByteArray) (xs : List KE) (w : World) (h : DR w d xs) (hz : key.size ≤ maxLen) (hc : xs.length ≤ 800000000000000) (o : En) (hg : getL key xs = some o) :
    Calls Try.prog 19 #[.pointer (some ⟨d, 0, none⟩), .string key] w fun e w' => e = .returned (.tuple #[o.v, .bool true]) ∧ DR w' d (delL key xs) ∧ Dch d w w' := by
  obtain ⟨t, p, h1, h2, rfl, h4, h5⟩ := h
  have hb0 : Below w.heap.size w (w.alloc (.cells #[.int .i64 0, .int .i64 0, .int .i64 0, .int .i64 0, .int .i64 0, .bool false] 26)) := (Below.refl _ _).alloc (Nat.le_refl _) _
  have hX0 := Box.new w 26 #[.int .i64 0, .int .i64 0, .int .i64 0, .int .i64 0, .int .i64 0, .bool false]
  have hdl := h1.lt
  have H := Lib.hid (And.intro hb0 (And.intro hX0 (And.intro (h1.below hb0 hdl) (And.intro (h2.below hb0) (And.intro h4 h5)))))
  have HG := Lib.hid (show entV (getL key t.flat) = .tuple #[o.v, .bool true] by rw [hg]; rfl)
  have HN := Lib.hid (show getL key t.flat ≠ none by rw [hg]; simp)
  have hkz : key.size ≤ 64 := Classical.byContradiction fun hn => by rw [getL_long h5 hn] at hg; cases hg
  have hcn : t.cnt ≤ 800000000000000 := hc
  clear hc hg
  clear h1 h2 h4 h5 hb0 hX0
  go_enter Try.func19, Try.ntmps19
  go_wp2_with (first
    | (go_at_call 14
       refine (get_any d key t.flat _ ⟨t, p, H.out.2.2.1, H.out.2.2.2.1, rfl, H.out.2.2.2.2.1, H.out.2.2.2.2.2⟩ hz).mono ?_
       rintro e w1 ⟨rfl, hb1⟩
       rw [HG.out]
       have hq1 := H.out.2.1.below hb1 H.out.2.1.lt
       have hq3 := H.out.2.2.1.below hb1 H.out.2.2.1.lt
       have hc1 := hq1.cell
       have hf1 := hq1.free
       have hl1 := hq1.lt
       have hc3 := hq3.cell
       have hf3 := hq3.free
       have hl3 := hq3.lt
       have H1 := Lib.hid (And.intro (H.out.1.trans (hb1.mono H.out.1.size)) (And.intro hq1 (And.intro hq3 (H.out.2.2.2.1.below hb1))))
       clear hb1 hq1 hq3)
    | (go_at_call 39
       (with_reducible refine (without_any t p key _ ?_ ?_ ?_ ?_ ?_ ?_).mono ?_)
       · exact H1.out.2.2.2.below (bal w1 _)
       · exact H.out.2.2.2.2.1
       · exact H.out.2.2.2.2.2
       · exact hkz
       · exact HN.out
       · exact hcn
       rintro e w2 ⟨t2, p2, rfl, f2, g2, b2⟩
       have b12 : Below w1.heap.size w1 w2 := (bal w1 (.cells #[.int .i64 o.seg, .int .i64 o.at_, .int .i64 o.size, .int .i64 o.off, .int .i64 o.time, .bool o.tomb] 26)).trans (b2.mono (by simp))
       have hq1 := H1.out.2.1.below b12 hl1
       have hq3 := H1.out.2.2.1.below b12 hl3
       have hq4 := (Box.new w1 26 #[.int .i64 o.seg, .int .i64 o.at_, .int .i64 o.size, .int .i64 o.off, .int .i64 o.time, .bool o.tomb]).below b2 (by simp)
       have hc11 := hq1.cell
       have hf11 := hq1.free
       have hc33 := hq3.cell
       have hf33 := hq3.free
       have hc44 := hq4.cell
       have hl33 := hq3.lt
       have hl11 := hq1.lt
       have hl44 := hq4.lt
       have H2 := Lib.hid (And.intro f2 (And.intro g2 (And.intro (H1.out.1.trans (b12.mono H1.out.1.size)) (And.intro hq1 hq3))))
       clear f2 g2 b2 b12 hq1 hq3 hq4))
  refine bodyPost_ret (v := .tuple #[o.v, .bool true]) ?_ rfl ?_
  · simp [results, Try.results19, go_sem, hc11]
  refine ⟨rfl, DR.upd (r := w.heap.size) H2.out.2.2.2.2 H2.out.2.1 H2.out.1 (H.out.2.2.2.2.1.del _) (H.out.2.2.2.2.2.del) H2.out.2.2.2.1 (by decide) (by omega) ?_, ?_⟩
  · repeat (first | with_reducible exact Chg.refl _ _ | refine Chg.setCell ?_ (by exact .inl rfl) _)
  · repeat (first | with_reducible exact Chg.of_below H2.out.2.2.1 _ | refine Chg.setCell ?_ (by first | exact .inl rfl | exact .inr (by simp)) _)

set_option maxRecDepth 100000 in
set_option maxHeartbeats 8000000 in
theorem rem_no (d : Nat) (key : ByteArray) (xs : List KE) (w : World) (h : DR w d xs) (hz : key.size ≤ maxLen) (hg : getL key xs = none) :
    Calls Try.prog 19 #[.pointer (some ⟨d, 0, none⟩), .string key] w fun e w' => e = .returned (.tuple #[En.zero.v, .bool false]) ∧ Below w.heap.size w w' := by
  obtain ⟨t, p, h1, h2, rfl, h4, h5⟩ := h
  have hb0 : Below w.heap.size w (w.alloc (.cells #[.int .i64 0, .int .i64 0, .int .i64 0, .int .i64 0, .int .i64 0, .bool false] 26)) := (Below.refl _ _).alloc (Nat.le_refl _) _
  have hX0 := Box.new w 26 #[.int .i64 0, .int .i64 0, .int .i64 0, .int .i64 0, .int .i64 0, .bool false]
  have hdl := h1.lt
  have H := Lib.hid (And.intro hb0 (And.intro hX0 (And.intro (h1.below hb0 hdl) (And.intro (h2.below hb0) (And.intro h4 h5)))))
  have HG := Lib.hid (show entV (getL key t.flat) = .tuple #[En.zero.v, .bool false] by rw [hg]; rfl)
  clear hg
  generalize En.zero = o at HG ⊢
  clear h1 h2 h4 h5 hb0 hX0
  go_enter Try.func19, Try.ntmps19
  go_wp2_with (first
    | (go_at_call 14
       refine (get_any d key t.flat _ ⟨t, p, H.out.2.2.1, H.out.2.2.2.1, rfl, H.out.2.2.2.2.1, H.out.2.2.2.2.2⟩ hz).mono ?_
       rintro e w1 ⟨rfl, hb1⟩
       rw [HG.out]
       have hq1 := H.out.2.1.below hb1 H.out.2.1.lt
       have hq3 := H.out.2.2.1.below hb1 H.out.2.2.1.lt
       have hc1 := hq1.cell
       have hf1 := hq1.free
       have hl1 := hq1.lt
       have hc3 := hq3.cell
       have hf3 := hq3.free
       have hl3 := hq3.lt
       have H1 := Lib.hid (And.intro (H.out.1.trans (hb1.mono H.out.1.size)) (And.intro hq1 (And.intro hq3 (H.out.2.2.2.1.below hb1))))
       clear hb1 hq1 hq3))
  have hbx := (box6 H1.out.2.1 (.int .i64 o.seg) (.int .i64 o.at_) (.int .i64 o.size) (.int .i64 o.off) (.int .i64 o.time) (.bool o.tomb)).alloc (.cells #[.int .i64 o.seg, .int .i64 o.at_, .int .i64 o.size, .int .i64 o.off, .int .i64 o.time, .bool o.tomb] 26)
  have hbl : Below w.heap.size w (((((((w1.setCell ⟨w.heap.size, 0, none⟩ (.int .i64 o.seg)).setCell ⟨w.heap.size, 1, none⟩ (.int .i64 o.at_)).setCell ⟨w.heap.size, 2, none⟩ (.int .i64 o.size)).setCell ⟨w.heap.size, 3, none⟩ (.int .i64 o.off)).setCell ⟨w.heap.size, 4, none⟩ (.int .i64 o.time)).setCell ⟨w.heap.size, 5, none⟩ (.bool o.tomb)).alloc (.cells #[.int .i64 o.seg, .int .i64 o.at_, .int .i64 o.size, .int .i64 o.off, .int .i64 o.time, .bool o.tomb] 26)) :=
    ((((((H1.out.1.setCell (p := ⟨w.heap.size, 0, none⟩) (Nat.le_refl _) _).setCell (p := ⟨w.heap.size, 1, none⟩) (Nat.le_refl _) _).setCell (p := ⟨w.heap.size, 2, none⟩) (Nat.le_refl _) _).setCell (p := ⟨w.heap.size, 3, none⟩) (Nat.le_refl _) _).setCell (p := ⟨w.heap.size, 4, none⟩) (Nat.le_refl _) _).setCell (p := ⟨w.heap.size, 5, none⟩) (Nat.le_refl _) _).alloc (by simp; omega) _
  generalize hWx : ((((((w1.setCell ⟨w.heap.size, 0, none⟩ (.int .i64 o.seg)).setCell ⟨w.heap.size, 1, none⟩ (.int .i64 o.at_)).setCell ⟨w.heap.size, 2, none⟩ (.int .i64 o.size)).setCell ⟨w.heap.size, 3, none⟩ (.int .i64 o.off)).setCell ⟨w.heap.size, 4, none⟩ (.int .i64 o.time)).setCell ⟨w.heap.size, 5, none⟩ (.bool o.tomb)).alloc (.cells #[.int .i64 o.seg, .int .i64 o.at_, .int .i64 o.size, .int .i64 o.off, .int .i64 o.time, .bool o.tomb] 26) = Wx at hbx hbl ⊢
  have hbc := hbx.cell
  clear hWx hbx hc1 hf1 hc3 hf3
  refine bodyPost_ret (v := .tuple #[o.v, .bool false]) ?_ rfl ⟨rfl, hbl⟩
  simp [results, Try.results19, go_sem, hbc]

set_option maxRecDepth 100000 in
theorem new_any (w : World) : Calls Try.prog 9 #[] w fun e w' => e = .returned (.pointer (some ⟨w.heap.size, 0, none⟩)) ∧ DR w' w.heap.size [] ∧ Below w.heap.size w w' := by
  have hX := Box.new w 64 #[.pointer none]
  have hd : DR (w.alloc (.cells #[.pointer none] 64)) w.heap.size [] := ⟨.leaf, none, hX, rfl, rfl, List.Pairwise.nil, fun x h => by cases h⟩
  have HD := Lib.hid hd
  clear hX hd
  go_enter Try.func9, Try.ntmps9
  go_wp2
  go_ret
  exact ⟨rfl, HD.out, bal _ _⟩
set_option maxRecDepth 100000 in
theorem len_any (d : Nat) (xs : List KE) (w : World) (h : DR w d xs) : Calls Try.prog 23 #[.pointer (some ⟨d, 0, none⟩)] w fun e w' => e = .returned (.int .i64 xs.length) ∧ w = w' := by
  obtain ⟨t, p, h1, h2, rfl, h4, h5⟩ := h
  have H := Lib.hid (And.intro h1 h2)
  clear h1 h2 h4 h5
  go_enter Try.func23, Try.ntmps23
  go_wp2_with (first
    | (go_at_call 38
       refine (top_any d p _ H.out.1).mono ?_
       rintro e w' ⟨rfl, rfl⟩)
    | (go_at_call 40
       refine (count_any t p _ _ H.out.2).mono ?_
       rintro e w' ⟨rfl, rfl⟩))
  go_ret
  exact ⟨rfl, rfl⟩
set_option maxRecDepth 100000 in
theorem freeze_any (d : Nat) (xs : List KE) (w : World) (h : DR w d xs) : Calls Try.prog 20 #[.pointer (some ⟨d, 0, none⟩)] w fun e w' => e = .returned (.pointer (some ⟨w.heap.size, 0, none⟩)) ∧ DR w' w.heap.size xs ∧ Below w.heap.size w w' := by
  obtain ⟨t, p, h1, h2, rfl, h4, h5⟩ := h
  have hX := Box.new w 64 #[.pointer p]
  have hd : DR (w.alloc (.cells #[.pointer p] 64)) w.heap.size t.flat := ⟨t, p, hX, h2.below (bal _ _), rfl, h4, h5⟩
  have HD := Lib.hid hd
  have hc : w.cell? ⟨d, 0, none⟩ = some (.pointer p) := h1.cell 0
  clear hX hd h1 h2 h4 h5
  go_enter Try.func20, Try.ntmps20
  go_wp2
  go_ret
  exact ⟨rfl, HD.out, bal _ _⟩
/-- Range of a dir. -/
theorem range_dir (d : Nat) (xs : List KE) (lo hi : ByteArray) (lim : Int) (w : World) (h : DR w d xs) (hlo : lo.size ≤ maxLen) (hhi : hi.size ≤ maxLen) (hN : xs.length ≤ 2199023255488) (hl1 : 1 ≤ lim) (hl2 : lim ≤ 9223372036854775807) :
    Calls Try.prog 16 #[.pointer (some ⟨d, 0, none⟩), .string lo, .string hi, .int .i64 lim] w (RV ((sel lo hi xs).take lim.toNat) w) := by
  obtain ⟨t, p, h1, h2, rfl, h4, h5⟩ := h
  exact range_any _ p t lo hi lim w hlo hhi h4 h5 h2 (.inr ⟨d, rfl, h1⟩) hN hl1 hl2
end Go.Proofs.Ytociadicjbkjcaa
