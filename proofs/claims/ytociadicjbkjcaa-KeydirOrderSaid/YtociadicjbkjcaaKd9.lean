import Derived.Test.YtociadicjbkjcaaKd8
namespace Go.Proofs.Ytociadicjbkjcaa
open Go.RowKit Go.Maps

def putV (o : Option En) : Value := .tuple #[(o.getD En.zero).v, .bool o.isSome, .int .i64 0]
theorem getD_v (o : Option En) : ∃ a, o.getD En.zero = a := ⟨_, rfl⟩
/-- A new root, and a result's box written: a dir again. -/
theorem DR.upd {w2 W : World} {d r : Nat} {p p2 : Option Addr} {t2 : Tn} {xs : List KE} {ar : Array Value} {ty : TypeId} (hq3 : Box w2 d 64 #[.pointer p]) (g2 : Tr w2 w2.heap.size t2 p2) (hf : t2.flat = xs) (hs : Sorted xs) (hk : KeysOk xs) (hr : Box w2 r ty ar) (hty : ty ≠ 82)
    (hrd : d ≠ r) (hc : Chg (fun k => k = r) (w2.setCell ⟨d, 0, none⟩ (.pointer p2)) W) : DR W d xs := by
  have hc0 : Chg (fun k => k = d) w2 (w2.setCell ⟨d, 0, none⟩ (.pointer p2)) := (Chg.refl (fun k => k = d) w2).setCell (p := ⟨d, 0, none⟩) (.inl rfl) _
  have n1 : NK w2 (w2.setCell ⟨d, 0, none⟩ (.pointer p2)) := NK.of_chg hc0 fun k hk cs => by subst hk; exact box_not hq3 (by decide) cs
  have hr1 := hr.far (p := ⟨d, 0, none⟩) (fun e => hrd e.symm) (.pointer p2)
  have n2 : NK (w2.setCell ⟨d, 0, none⟩ (.pointer p2)) W := NK.of_chg hc fun k hk cs => by subst hk; exact box_not hr1 hty cs
  have hd1 : Box (w2.setCell ⟨d, 0, none⟩ (.pointer p2)) d 64 #[.pointer p2] := by simpa using hq3.set_ 0 (.pointer p2)
  exact ⟨t2, p2, hd1.chg hc hrd, g2.nk (n1.trans n2) (n1.trans n2).size, hf, hs, hk⟩

set_option maxRecDepth 100000 in
set_option maxHeartbeats 8000000 in
theorem put_ok (d : Nat) (key : ByteArray) (en : En) (xs : List KE) (w : World) (h : DR w d xs) (hz : 1 ≤ key.size ∧ key.size ≤ 64) (hc : xs.length ≤ 800000000000000) :
    Calls Try.prog 21 #[.pointer (some ⟨d, 0, none⟩), .string key, en.v] w fun e w' => e = .returned (putV (getL key xs)) ∧ DR w' d (putL key en xs) ∧ Dch d w w' := by
  obtain ⟨t, p, h1, h2, rfl, h4, h5⟩ := h
  have hb0 : Below w.heap.size w ((w.alloc (.cells #[.int .i64 en.seg, .int .i64 en.at_, .int .i64 en.size, .int .i64 en.off, .int .i64 en.time, .bool en.tomb] 26)).alloc (.cells #[.int .i64 0, .int .i64 0, .int .i64 0, .int .i64 0, .int .i64 0, .bool false] 26)) := ((Below.refl _ _).alloc (Nat.le_refl _) _).alloc (by simp) _
  have hX0 := (Box.new w 26 #[.int .i64 en.seg, .int .i64 en.at_, .int .i64 en.size, .int .i64 en.off, .int .i64 en.time, .bool en.tomb]).alloc (.cells #[.int .i64 0, .int .i64 0, .int .i64 0, .int .i64 0, .int .i64 0, .bool false] 26)
  have hX1 := Box.new (w.alloc (.cells #[.int .i64 en.seg, .int .i64 en.at_, .int .i64 en.size, .int .i64 en.off, .int .i64 en.time, .bool en.tomb] 26)) 26 #[.int .i64 0, .int .i64 0, .int .i64 0, .int .i64 0, .int .i64 0, .bool false]
  rw [World.size_alloc] at hX1
  have hdl := h1.lt
  have H := Lib.hid (And.intro hb0 (And.intro hX0 (And.intro hX1 (And.intro (h1.below hb0 hdl) (And.intro (h2.below hb0) (And.intro h4 h5))))))
  unfold putV
  rw [show En.v = En.v from rfl]
  generalize ho : (getL key t.flat).getD En.zero = o
  generalize hbo : (getL key t.flat).isSome = bo
  have HG := Lib.hid (show entV (getL key t.flat) = .tuple #[o.v, .bool bo] by rw [entV_eq, ho, hbo])
  have hcn : t.cnt ≤ 800000000000000 := hc
  clear h1 h2 h4 h5 hb0 hX0 hX1 ho hbo hc
  go_enter Try.func21, Try.ntmps21
  go_wp2_with (first
    | (go_at_call 35
       refine (refused_ok d key _ hz).mono ?_
       rintro e w' ⟨rfl, rfl⟩)
    | (go_at_call 14
       refine (get_any d key t.flat _ ⟨t, p, H.out.2.2.2.1, H.out.2.2.2.2.1, rfl, H.out.2.2.2.2.2.1, H.out.2.2.2.2.2.2⟩ (sz64 hz.2)).mono ?_
       rintro e w1 ⟨rfl, hb1⟩
       rw [HG.out]
       have hq1 := H.out.2.1.below hb1 H.out.2.1.lt
       have hq2 := H.out.2.2.1.below hb1 H.out.2.2.1.lt
       have hq3 := H.out.2.2.2.1.below hb1 H.out.2.2.2.1.lt
       have hc1 := hq1.cell
       have hc2 := hq2.cell
       have hf2 := hq2.free
       have hl2 := hq2.lt
       have hl1 := hq1.lt
       have hc3 := hq3.cell
       have hf3 := hq3.free
       have hl3 := hq3.lt
       have H1 := Lib.hid (And.intro (H.out.1.trans (hb1.mono H.out.1.size)) (And.intro hq2 (And.intro hq3 (H.out.2.2.2.2.1.below hb1))))
       clear hb1 hq1 hq2 hq3))
  go_region_with (first
    | (go_at_call 36
       (with_reducible refine (with_any key en hz t p _ ?_ ?_ ?_ ?_).mono ?_)
       (exact H1.out.2.2.2.below (bal w1 _).drew)
       (exact H.out.2.2.2.2.2.1)
       (exact H.out.2.2.2.2.2.2)
       (exact hcn)
       rintro e w2 ⟨t2, p2, rfl, f2, g2, b2⟩
       have b12 : Below w1.heap.size w1 w2 := ((bal w1 (.cells #[.int .i64 o.seg, .int .i64 o.at_, .int .i64 o.size, .int .i64 o.off, .int .i64 o.time, .bool o.tomb] 26)).drew).trans (b2.mono (by simp))
       have hq2 := H1.out.2.1.below b12 hl2
       have hq3 := H1.out.2.2.1.below b12 hl3
       have hq4 := (Box.new w1 26 #[.int .i64 o.seg, .int .i64 o.at_, .int .i64 o.size, .int .i64 o.off, .int .i64 o.time, .bool o.tomb]).drew.below b2 (by simp)
       have hc22 := hq2.cell
       have hf22 := hq2.free
       have hc33 := hq3.cell
       have hf33 := hq3.free
       have hc44 := hq4.cell
       have hl22 := hq2.lt
       have hl33 := hq3.lt
       have hl44 := hq4.lt
       have H2 := Lib.hid (And.intro f2 (And.intro g2 (And.intro (H1.out.1.trans (b12.mono H1.out.1.size)) (And.intro hq2 hq3))))
       clear f2 g2 b2 b12 hq2 hq3 hq4))
  all_goals
    go_wp2
    refine bodyPost_ret (v := .tuple #[o.v, .bool bo, .int .i64 0]) ?_ rfl ?_
    · simp [results, Try.results21, go_sem, hc22]
    refine ⟨rfl, DR.upd (r := w.heap.size + 1) H2.out.2.2.2.2 H2.out.2.1 H2.out.1 (H.out.2.2.2.2.2.1.put _ _) (H.out.2.2.2.2.2.2.put hz) H2.out.2.2.2.1 (by decide) (by omega) ?_, ?_⟩
    · repeat (first | with_reducible exact Chg.refl _ _ | refine Chg.setCell ?_ (by exact .inl rfl) _)
    · repeat (first | with_reducible exact Chg.of_below H2.out.2.2.1 _ | refine Chg.setCell ?_ (by first | exact .inl rfl | exact .inr (by simp)) _)
end Go.Proofs.Ytociadicjbkjcaa
