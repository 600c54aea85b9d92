import Derived.Test.YtociadicjbkjcaaKd12
namespace Go.Proofs.Ytociadicjbkjcaa
open Go.RowKit Go.Maps

/-- A new root, nothing else: a dir again. -/
theorem DR.root {w2 : World} {d : Nat} {p p2 : Option Addr} {t2 : Tn} {xs : List KE} (hq3 : Box w2 d 64 #[.pointer p]) (g2 : Tr w2 w2.heap.size t2 p2) (hf : t2.flat = xs) (hs : Sorted xs) (hk : KeysOk xs) : DR (w2.setCell ⟨d, 0, none⟩ (.pointer p2)) d xs := by
  have hc0 : Chg (fun k => k = d) w2 (w2.setCell ⟨d, 0, none⟩ (.pointer p2)) := (Chg.refl (fun k => k = d) w2).setCell (p := ⟨d, 0, none⟩) (.inl rfl) _
  have n1 : NK w2 (w2.setCell ⟨d, 0, none⟩ (.pointer p2)) := NK.of_chg hc0 fun k hk cs => by subst hk; exact box_not hq3 (by decide) cs
  exact ⟨t2, p2, by simpa using hq3.set_ 0 (.pointer p2), g2.nk n1 n1.size, hf, hs, hk⟩

set_option maxRecDepth 100000 in
set_option maxHeartbeats 8000000 in
theorem note_none (d : Nat) (key : ByteArray) (en : En) (xs : List KE) (w : World) (h : DR w d xs) (hz : 1 ≤ key.size ∧ key.size ≤ 64) (hc : xs.length ≤ 800000000000000) (hg : getL key xs = none) :
    Calls Try.prog 10 #[.pointer (some ⟨d, 0, none⟩), .string key, en.v] w fun e w' => e = .returned (.tuple #[.bool true, .int .i64 0]) ∧ DR w' d (putL key en xs) ∧ Dch d w w' := by
  obtain ⟨t, p, h1, h2, rfl, h4, h5⟩ := h
  have hb0 : Below w.heap.size w (w.alloc (.cells #[.int .i64 en.seg, .int .i64 en.at_, .int .i64 en.size, .int .i64 en.off, .int .i64 en.time, .bool en.tomb] 26)) := (Below.refl _ _).alloc (Nat.le_refl _) _
  have hX0 := Box.new w 26 #[.int .i64 en.seg, .int .i64 en.at_, .int .i64 en.size, .int .i64 en.off, .int .i64 en.time, .bool en.tomb]
  have hdl := h1.lt
  have H := Lib.hid (And.intro hb0 (And.intro hX0 (And.intro (h1.below hb0 hdl) (And.intro (h2.below hb0) (And.intro h4 h5)))))
  have HG := Lib.hid (show entV (getL key t.flat) = .tuple #[En.zero.v, .bool false] by rw [hg]; rfl)
  have hcn : t.cnt ≤ 800000000000000 := hc
  clear hc hg
  generalize En.zero = o at HG
  clear h1 h2 h4 h5 hb0 hX0
  go_enter Try.func10, Try.ntmps10
  go_wp2_with (first
    | (go_at_call 35
       refine (refused_ok d key _ hz).mono ?_
       rintro e w' ⟨rfl, rfl⟩)
    | (go_at_call 14
       refine (get_any d key t.flat _ ⟨t, p, H.out.2.2.1, H.out.2.2.2.1, rfl, H.out.2.2.2.2.1, H.out.2.2.2.2.2⟩ (sz64 hz.2)).mono ?_
       rintro e w1 ⟨rfl, hb1⟩
       rw [HG.out]
       have hq1 := H.out.2.1.below hb1 H.out.2.1.lt
       have hq3 := H.out.2.2.1.below hb1 H.out.2.2.1.lt
       have hc1 := hq1.cell
       have hl1 := hq1.lt
       have hc3 := hq3.cell
       have hf3 := hq3.free
       have hl3 := hq3.lt
       have H1 := Lib.hid (And.intro (H.out.1.trans (hb1.mono H.out.1.size)) (And.intro hq3 (H.out.2.2.2.1.below hb1)))
       clear hb1 hq1 hq3))
  go_region_with (first
    | (go_at_call 36
       (with_reducible refine (with_any key en hz t p _ ?_ ?_ ?_ ?_).mono ?_)
       · exact H1.out.2.2.below (bal w1 _).drew
       · exact H.out.2.2.2.2.1
       · exact H.out.2.2.2.2.2
       · exact hcn
       rintro e w2 ⟨t2, p2, rfl, f2, g2, b2⟩
       have b12 : Below w1.heap.size w1 w2 := ((bal w1 (.cells #[.int .i64 o.seg, .int .i64 o.at_, .int .i64 o.size, .int .i64 o.off, .int .i64 o.time, .bool o.tomb] 26)).drew).trans (b2.mono (by simp))
       have hq3 := H1.out.2.1.below b12 hl3
       have hc33 := hq3.cell
       have hf33 := hq3.free
       have hl33 := hq3.lt
       have H2 := Lib.hid (And.intro f2 (And.intro g2 (And.intro (H1.out.1.trans (b12.mono H1.out.1.size)) hq3)))
       clear f2 g2 b2 b12 hq3))
  all_goals
    go_wp2
    go_ret2
    exact ⟨rfl, DR.root H2.out.2.2.2 H2.out.2.1 H2.out.1 (H.out.2.2.2.2.1.put _ _) (H.out.2.2.2.2.2.put hz), (Chg.of_below H2.out.2.2.1 (fun k => k = d)).setCell (p := ⟨d, 0, none⟩) (.inl rfl) _⟩

set_option maxRecDepth 100000 in
set_option maxHeartbeats 8000000 in
theorem note_more (d : Nat) (key : ByteArray) (en : En) (xs : List KE) (w : World) (h : DR w d xs) (hz : 1 ≤ key.size ∧ key.size ≤ 64) (hc : xs.length ≤ 800000000000000) (o : En) (hg : getL key xs = some o) (hlt : o.off < en.off) :
    Calls Try.prog 10 #[.pointer (some ⟨d, 0, none⟩), .string key, en.v] w fun e w' => e = .returned (.tuple #[.bool true, .int .i64 0]) ∧ DR w' d (putL key en xs) ∧ Dch d w w' := by
  obtain ⟨t, p, h1, h2, rfl, h4, h5⟩ := h
  have hb0 : Below w.heap.size w (w.alloc (.cells #[.int .i64 en.seg, .int .i64 en.at_, .int .i64 en.size, .int .i64 en.off, .int .i64 en.time, .bool en.tomb] 26)) := (Below.refl _ _).alloc (Nat.le_refl _) _
  have hX0 := Box.new w 26 #[.int .i64 en.seg, .int .i64 en.at_, .int .i64 en.size, .int .i64 en.off, .int .i64 en.time, .bool en.tomb]
  have hdl := h1.lt
  have H := Lib.hid (And.intro hb0 (And.intro hX0 (And.intro (h1.below hb0 hdl) (And.intro (h2.below hb0) (And.intro h4 h5)))))
  have HG := Lib.hid (show entV (getL key t.flat) = .tuple #[o.v, .bool true] by rw [hg]; rfl)
  have hcn : t.cnt ≤ 800000000000000 := hc
  clear hc hg
  clear h1 h2 h4 h5 hb0 hX0
  go_enter Try.func10, Try.ntmps10
  go_wp2_with (first
    | (go_at_call 35
       refine (refused_ok d key _ hz).mono ?_
       rintro e w' ⟨rfl, rfl⟩)
    | (go_at_call 14
       refine (get_any d key t.flat _ ⟨t, p, H.out.2.2.1, H.out.2.2.2.1, rfl, H.out.2.2.2.2.1, H.out.2.2.2.2.2⟩ (sz64 hz.2)).mono ?_
       rintro e w1 ⟨rfl, hb1⟩
       rw [HG.out]
       have hq1 := H.out.2.1.below hb1 H.out.2.1.lt
       have hq3 := H.out.2.2.1.below hb1 H.out.2.2.1.lt
       have hc1 := hq1.cell
       have hl1 := hq1.lt
       have hc3 := hq3.cell
       have hf3 := hq3.free
       have hl3 := hq3.lt
       have H1 := Lib.hid (And.intro (H.out.1.trans (hb1.mono H.out.1.size)) (And.intro hq3 (H.out.2.2.2.1.below hb1)))
       clear hb1 hq1 hq3))
  go_region_with (first
    | (go_at_call 36
       (with_reducible refine (with_any key en hz t p _ ?_ ?_ ?_ ?_).mono ?_)
       · exact H1.out.2.2.below (bal w1 _).drew
       · exact H.out.2.2.2.2.1
       · exact H.out.2.2.2.2.2
       · exact hcn
       rintro e w2 ⟨t2, p2, rfl, f2, g2, b2⟩
       have b12 : Below w1.heap.size w1 w2 := ((bal w1 (.cells #[.int .i64 o.seg, .int .i64 o.at_, .int .i64 o.size, .int .i64 o.off, .int .i64 o.time, .bool o.tomb] 26)).drew).trans (b2.mono (by simp))
       have hq3 := H1.out.2.1.below b12 hl3
       have hc33 := hq3.cell
       have hf33 := hq3.free
       have hl33 := hq3.lt
       have H2 := Lib.hid (And.intro f2 (And.intro g2 (And.intro (H1.out.1.trans (b12.mono H1.out.1.size)) hq3)))
       clear f2 g2 b2 b12 hq3))
  all_goals
    go_wp2
    go_ret2
    exact ⟨rfl, DR.root H2.out.2.2.2 H2.out.2.1 H2.out.1 (H.out.2.2.2.2.1.put _ _) (H.out.2.2.2.2.2.put hz), (Chg.of_below H2.out.2.2.1 (fun k => k = d)).setCell (p := ⟨d, 0, none⟩) (.inl rfl) _⟩

set_option maxRecDepth 100000 in
set_option maxHeartbeats 8000000 in
theorem note_less (d : Nat) (key : ByteArray) (en : En) (xs : List KE) (w : World) (h : DR w d xs) (hz : 1 ≤ key.size ∧ key.size ≤ 64) (o : En) (hg : getL key xs = some o) (hle : en.off ≤ o.off) :
    Calls Try.prog 10 #[.pointer (some ⟨d, 0, none⟩), .string key, en.v] w fun e w' => e = .returned (.tuple #[.bool false, .int .i64 0]) ∧ Below w.heap.size w w' := by
  obtain ⟨t, p, h1, h2, rfl, h4, h5⟩ := h
  have hb0 : Below w.heap.size w (w.alloc (.cells #[.int .i64 en.seg, .int .i64 en.at_, .int .i64 en.size, .int .i64 en.off, .int .i64 en.time, .bool en.tomb] 26)) := (Below.refl _ _).alloc (Nat.le_refl _) _
  have hX0 := Box.new w 26 #[.int .i64 en.seg, .int .i64 en.at_, .int .i64 en.size, .int .i64 en.off, .int .i64 en.time, .bool en.tomb]
  have hdl := h1.lt
  have H := Lib.hid (And.intro hb0 (And.intro hX0 (And.intro (h1.below hb0 hdl) (And.intro (h2.below hb0) (And.intro h4 h5)))))
  have HG := Lib.hid (show entV (getL key t.flat) = .tuple #[o.v, .bool true] by rw [hg]; rfl)
  clear hg
  clear h1 h2 h4 h5 hb0 hX0
  go_enter Try.func10, Try.ntmps10
  go_wp2_with (first
    | (go_at_call 35
       refine (refused_ok d key _ hz).mono ?_
       rintro e w' ⟨rfl, rfl⟩)
    | (go_at_call 14
       refine (get_any d key t.flat _ ⟨t, p, H.out.2.2.1, H.out.2.2.2.1, rfl, H.out.2.2.2.2.1, H.out.2.2.2.2.2⟩ (sz64 hz.2)).mono ?_
       rintro e w1 ⟨rfl, hb1⟩
       rw [HG.out]
       have hq1 := H.out.2.1.below hb1 H.out.2.1.lt
       have hq3 := H.out.2.2.1.below hb1 H.out.2.2.1.lt
       have hc1 := hq1.cell
       have hl1 := hq1.lt
       have hc3 := hq3.cell
       have hf3 := hq3.free
       have hl3 := hq3.lt
       have H1 := Lib.hid (And.intro (H.out.1.trans (hb1.mono H.out.1.size)) (And.intro hq3 (H.out.2.2.2.1.below hb1)))
       clear hb1 hq1 hq3))
  go_ret2
  exact ⟨rfl, H1.out.1.alloc H1.out.1.size _⟩

set_option maxRecDepth 100000 in
theorem note_bad (d : Nat) (key : ByteArray) (en : En) (w : World) (h : ¬ (1 ≤ key.size ∧ key.size ≤ 64)) (hm : key.size ≤ maxLen) :
    Calls Try.prog 10 #[.pointer (some ⟨d, 0, none⟩), .string key, en.v] w fun e w' => e = .returned (.tuple #[.bool false, .int .i64 42]) ∧ Below w.heap.size w w' := by
  have HB := Lib.hid (bal w (.cells #[.int .i64 en.seg, .int .i64 en.at_, .int .i64 en.size, .int .i64 en.off, .int .i64 en.time, .bool en.tomb] 26))
  go_enter Try.func10, Try.ntmps10
  go_wp2_with (first
    | (go_at_call 35
       refine (refused_key d key _ h hm).mono ?_
       rintro e w' ⟨rfl, rfl⟩))
  go_ret2
  exact ⟨rfl, HB.out⟩

set_option maxRecDepth 100000 in
set_option maxHeartbeats 4000000 in
theorem put_bad (d : Nat) (key : ByteArray) (en : En) (w : World) (h : ¬ (1 ≤ key.size ∧ key.size ≤ 64)) (hm : key.size ≤ maxLen) :
    Calls Try.prog 21 #[.pointer (some ⟨d, 0, none⟩), .string key, en.v] w fun e w' => e = .returned (.tuple #[En.zero.v, .bool false, .int .i64 42]) ∧ Below w.heap.size w w' := by
  have hb0 : Below w.heap.size w ((w.alloc (.cells #[.int .i64 en.seg, .int .i64 en.at_, .int .i64 en.size, .int .i64 en.off, .int .i64 en.time, .bool en.tomb] 26)).alloc (.cells #[.int .i64 0, .int .i64 0, .int .i64 0, .int .i64 0, .int .i64 0, .bool false] 26)) := ((Below.refl _ _).alloc (Nat.le_refl _) _).alloc (by simp) _
  have hX1 := Box.new (w.alloc (.cells #[.int .i64 en.seg, .int .i64 en.at_, .int .i64 en.size, .int .i64 en.off, .int .i64 en.time, .bool en.tomb] 26)) 26 #[.int .i64 0, .int .i64 0, .int .i64 0, .int .i64 0, .int .i64 0, .bool false]
  rw [World.size_alloc] at hX1
  have hc := hX1.cell
  have hf := hX1.free
  have HB := Lib.hid hb0
  clear hb0 hX1
  go_enter Try.func21, Try.ntmps21
  go_wp2_with (first
    | (go_at_call 35
       refine (refused_key d key _ h hm).mono ?_
       rintro e w' ⟨rfl, rfl⟩))
  refine bodyPost_ret (v := .tuple #[En.zero.v, .bool false, .int .i64 42]) ?_ rfl ?_
  · simp [results, Try.results21, go_sem, hc, En.zero]
  refine ⟨rfl, ?_⟩
  repeat (first | with_reducible exact HB.out | refine Below.setCell ?_ (by simp) _)

end Go.Proofs.Ytociadicjbkjcaa
