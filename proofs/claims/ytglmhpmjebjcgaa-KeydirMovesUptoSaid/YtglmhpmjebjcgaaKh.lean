import Derived.Test.YtglmhpmjebjcgaaKg
/- chronicleref8: Note, Point. -/
namespace Go.Proofs.Ytglmhpmjebjcgaa
open Go.RowKit Go.Maps

theorem put8_ok (B d : Nat) (v : Value) (key : ByteArray) (en : En) (xs : List KE) (w : World) (h : RR w B d v xs) (hz : 1 ≤ key.size ∧ key.size ≤ 64) (hc : xs.length ≤ 2199023255480) (hB : B ≤ w.heap.size) :
    Calls Try.prog 12 #[.pointer (some ⟨d, 0, none⟩), .string key, en.v] w fun e w' => e = .returned (putV (getL key xs)) ∧ RU w w' B d v (putL key en xs) := by
  cases hg : getL key xs with
  | none => exact put8_new B d v key en xs w h hz hc hg hB
  | some o => exact put8_old B d v key en o xs w h hz hc hg

/-- What a call leaves, seen from further back. -/
theorem RU.from {w0 w w' : World} {B d : Nat} {v : Value} {xs : List KE} (h : RU w w' B d v xs) (hb : Below w0.heap.size w0 w) : RU w0 w' B d v xs := by
  obtain ⟨⟨v', h1, h2⟩, h3⟩ := h
  refine ⟨⟨v', h1, h2.imp id fun h j hj => Nat.le_trans hb.size (h j hj)⟩, (Chg.of_below hb _).trans h3⟩
theorem RU.below {w w' w2 : World} {B d : Nat} {v : Value} {xs : List KE} (h : RU w w' B d v xs) (hb : Below w'.heap.size w' w2) : RU w w2 B d v xs := by
  obtain ⟨⟨v', h1, h2⟩, h3⟩ := h
  exact ⟨⟨v', h1.below hb, h2⟩, h3.trans (Chg.of_below hb _)⟩

set_option maxRecDepth 100000 in
set_option maxHeartbeats 8000000 in
theorem note8_none (B d : Nat) (v : Value) (key : ByteArray) (en : En) (xs : List KE) (w : World) (h : RR w B d v xs) (hz : 1 ≤ key.size ∧ key.size ≤ 64) (hc : xs.length ≤ 2199023255480) (hB : B ≤ w.heap.size) (hg : getL key xs = none) :
    Calls Try.prog 14 #[.pointer (some ⟨d, 0, none⟩), .string key, en.v] w fun e w' => e = .returned (.tuple #[.bool true, .int .i64 0]) ∧ RU w w' B d v (putL key en xs) := by
  have hb0 := bal w (.cells #[.int .i64 en.seg, .int .i64 en.at_, .int .i64 en.size, .int .i64 en.off, .int .i64 en.time, .bool en.tomb] 38)
  have hX0 := Box.new w 38 #[.int .i64 en.seg, .int .i64 en.at_, .int .i64 en.size, .int .i64 en.off, .int .i64 en.time, .bool en.tomb]
  have H := Lib.hid (And.intro hb0 (And.intro hX0 (And.intro (h.below hb0) (And.intro hg (And.intro hc hB)))))
  have hzm := sz64 hz.2
  clear h hb0 hX0 hg hc hB
  go_enter Try.func14, Try.ntmps14
  go_wp2_with (first
    | (go_at_call 42
       refine (at_no B d v key xs _ H.out.2.2.1 hzm (by have := H.out.2.2.2.2.1; omega) H.out.2.2.2.1).mono ?_
       rintro e w1 ⟨rfl, n1, hw1⟩
       have h11 := below_drewN H.out.1 n1
       have h12 := H.out.2.1.drewN n1
       have h13 := H.out.2.2.1.below (below_drewN (Below.refl _ _) n1)
       rw [← hw1] at h11 h12 h13
       have hec := h12.cell
       have H1 := Lib.hid (And.intro h11 (And.intro h12 h13))
       clear h11 h12 h13 hw1))
  go_quiet (fail)
  go_wp2_with (first
    | (go_at_call 12
       refine (put8_ok B d v key en xs _ (H1.out.2.2.below (below_drewN (Below.refl _ _) _)) hz H.out.2.2.2.2.1 (by have := H1.out.1.size; have := H.out.2.2.2.2.2; simp; omega)).mono ?_
       rintro e w2 ⟨rfl, hu⟩
       rw [H.out.2.2.2.1, show putV none = .tuple #[En.zero.v, .bool false, .int .i64 0] from rfl]
       have hs2 := hu.2.size
       have HU := Lib.hid hu
       clear hu))
  refine bodyPost_ret (v := .tuple #[.bool true, .int .i64 0]) ?_ rfl ?_
  · simp [results, Try.results14, go_sem]
  refine ⟨rfl, ?_⟩
  exact (HU.out.from (below_drewN H1.out.1 _)).below (bal _ _)

set_option maxRecDepth 100000 in
set_option maxHeartbeats 8000000 in
theorem note8_less (B d : Nat) (v : Value) (key : ByteArray) (en o : En) (xs : List KE) (w : World) (h : RR w B d v xs) (hz : key.size ≤ maxLen) (hc : xs.length ≤ 2199023255480) (hg : getL key xs = some o) (hle : en.off ≤ o.off) :
    Calls Try.prog 14 #[.pointer (some ⟨d, 0, none⟩), .string key, en.v] w fun e w' => e = .returned (.tuple #[.bool false, .int .i64 0]) ∧ Below w.heap.size w w' := by
  have hb0 := bal w (.cells #[.int .i64 en.seg, .int .i64 en.at_, .int .i64 en.size, .int .i64 en.off, .int .i64 en.time, .bool en.tomb] 38)
  have hX0 := Box.new w 38 #[.int .i64 en.seg, .int .i64 en.at_, .int .i64 en.size, .int .i64 en.off, .int .i64 en.time, .bool en.tomb]
  obtain ⟨g, c, r, rfl, hr, ⟨hi, hx⟩, hcap, hgl, a0, a1, a2, a3, a4, a5, a6, _⟩ := (h.below hb0).place hg
  have hR := h.below hb0
  obtain ⟨nx, hnx⟩ : ∃ nx, xs.length = nx := ⟨_, rfl⟩
  have hi' := hi
  rw [hnx] at hcap hR hi'
  have H := Lib.hid (And.intro hb0 (And.intro hX0 (And.intro hR (And.intro hg (And.intro hc (And.intro hr (And.intro hnx a4)))))))
  have hr0 : (0 : Int) ≤ r := by omega
  have hr1 : (r : Int) < nx := by omega
  clear h hb0 hX0 hg hc a0 a1 a2 a3 a4 a5 a6 hx hr hi hnx hR
  go_enter Try.func14, Try.ntmps14
  go_wp2_with (first
    | (go_at_call 42
       refine (at_yes B d _ key xs o r _ H.out.2.2.1 hz (by have := H.out.2.2.2.2.1; omega) H.out.2.2.2.1 H.out.2.2.2.2.2.1).mono ?_
       rintro e w1 ⟨rfl, n1, hw1⟩
       have h11 := below_drewN H.out.1 n1
       have h12 := H.out.2.1.drewN n1
       have h13 := H.out.2.2.1.below (below_drewN (Below.refl _ _) n1)
       rw [← hw1] at h11 h12 h13
       have hec := h12.cell
       have hdc := h13.1.cell 0
       have a4 : w1.cell? ⟨g, r * 7 + 4, none⟩ = some (.int .i64 o.off) := by rw [hw1]; exact H.out.2.2.2.2.2.2.2
       have H1 := Lib.hid (And.intro h11 (And.intro h12 h13))
       clear h11 h12 h13 hw1))
  go_quiet (fail)
  go_wp2
  refine bodyPost_ret (v := .tuple #[.bool false, .int .i64 0]) ?_ rfl ?_
  · simp [results, Try.results14, go_sem]
  refine ⟨rfl, ?_⟩
  exact below_drewN H1.out.1 _
set_option maxRecDepth 100000 in
set_option maxHeartbeats 8000000 in
theorem note8_more (B d : Nat) (v : Value) (key : ByteArray) (en o : En) (xs : List KE) (w : World) (h : RR w B d v xs) (hz : key.size ≤ maxLen) (hc : xs.length ≤ 2199023255480) (hg : getL key xs = some o) (hz2 : 1 ≤ key.size ∧ key.size ≤ 64) (hle : o.off < en.off) (hB : B ≤ w.heap.size) :
    Calls Try.prog 14 #[.pointer (some ⟨d, 0, none⟩), .string key, en.v] w fun e w' => e = .returned (.tuple #[.bool true, .int .i64 0]) ∧ RU w w' B d v (putL key en xs) := by
  have hb0 := bal w (.cells #[.int .i64 en.seg, .int .i64 en.at_, .int .i64 en.size, .int .i64 en.off, .int .i64 en.time, .bool en.tomb] 38)
  have hX0 := Box.new w 38 #[.int .i64 en.seg, .int .i64 en.at_, .int .i64 en.size, .int .i64 en.off, .int .i64 en.time, .bool en.tomb]
  obtain ⟨g, c, r, rfl, hr, ⟨hi, hx⟩, hcap, hgl, a0, a1, a2, a3, a4, a5, a6, _⟩ := (h.below hb0).place hg
  have hle' : ¬ en.off ≤ o.off := by omega
  have hR := h.below hb0
  obtain ⟨nx, hnx⟩ : ∃ nx, xs.length = nx := ⟨_, rfl⟩
  have hi' := hi
  rw [hnx] at hcap hR hi'
  have H := Lib.hid (And.intro hb0 (And.intro hX0 (And.intro hR (And.intro hg (And.intro hc (And.intro hr (And.intro hnx a4)))))))
  have hr0 : (0 : Int) ≤ r := by omega
  have hr1 : (r : Int) < nx := by omega
  clear h hb0 hX0 hg hc a0 a1 a2 a3 a4 a5 a6 hx hr hi hnx hR
  go_enter Try.func14, Try.ntmps14
  go_wp2_with (first
    | (go_at_call 42
       refine (at_yes B d _ key xs o r _ H.out.2.2.1 hz (by have := H.out.2.2.2.2.1; omega) H.out.2.2.2.1 H.out.2.2.2.2.2.1).mono ?_
       rintro e w1 ⟨rfl, n1, hw1⟩
       have h11 := below_drewN H.out.1 n1
       have h12 := H.out.2.1.drewN n1
       have h13 := H.out.2.2.1.below (below_drewN (Below.refl _ _) n1)
       rw [← hw1] at h11 h12 h13
       have hec := h12.cell
       have hdc := h13.1.cell 0
       have a4 : w1.cell? ⟨g, r * 7 + 4, none⟩ = some (.int .i64 o.off) := by rw [hw1]; exact H.out.2.2.2.2.2.2.2
       have H1 := Lib.hid (And.intro h11 (And.intro h12 h13))
       clear h11 h12 h13 hw1))
  go_quiet (fail)
  go_wp2_with (first
    | (go_at_call 12
       refine (put8_ok B d _ key en xs _ (H1.out.2.2.below (below_drewN (Below.refl _ _) _)) hz2 H.out.2.2.2.2.1 (by have := H1.out.1.size; simp; omega)).mono ?_
       rintro e w2 ⟨rfl, hu⟩
       rw [H.out.2.2.2.1, show putV (some o) = .tuple #[o.v, .bool true, .int .i64 0] from rfl]
       have hs2 := hu.2.size
       have HU := Lib.hid hu
       clear hu))
  refine bodyPost_ret (v := .tuple #[.bool true, .int .i64 0]) ?_ rfl ?_
  · simp [results, Try.results14, go_sem]
  refine ⟨rfl, ?_⟩
  rw [H.out.2.2.2.2.2.2.1]
  exact (HU.out.from (below_drewN H1.out.1 _)).below (bal _ _)

set_option maxRecDepth 100000 in
set_option maxHeartbeats 8000000 in
theorem note8_bad (B d : Nat) (v : Value) (key : ByteArray) (en : En) (xs : List KE) (w : World) (h : RR w B d v xs) (hz : ¬ (1 ≤ key.size ∧ key.size ≤ 64)) (hzm : key.size ≤ maxLen) (hc : xs.length ≤ 2199023255480) (hg : getL key xs = none) :
    Calls Try.prog 14 #[.pointer (some ⟨d, 0, none⟩), .string key, en.v] w fun e w' => e = .returned (.tuple #[.bool false, .int .i64 42]) ∧ Below w.heap.size w w' := by
  have hb0 := bal w (.cells #[.int .i64 en.seg, .int .i64 en.at_, .int .i64 en.size, .int .i64 en.off, .int .i64 en.time, .bool en.tomb] 38)
  have hX0 := Box.new w 38 #[.int .i64 en.seg, .int .i64 en.at_, .int .i64 en.size, .int .i64 en.off, .int .i64 en.time, .bool en.tomb]
  have H := Lib.hid (And.intro hb0 (And.intro hX0 (And.intro (h.below hb0) (And.intro hg hc))))
  clear h hb0 hX0 hg hc
  go_enter Try.func14, Try.ntmps14
  go_wp2_with (first
    | (go_at_call 42
       refine (at_no B d v key xs _ H.out.2.2.1 hzm (by have := H.out.2.2.2.2; omega) H.out.2.2.2.1).mono ?_
       rintro e w1 ⟨rfl, n1, hw1⟩
       have h11 := below_drewN H.out.1 n1
       have h12 := H.out.2.1.drewN n1
       have h13 := H.out.2.2.1.below (below_drewN (Below.refl _ _) n1)
       rw [← hw1] at h11 h12 h13
       have hec := h12.cell
       have H1 := Lib.hid (And.intro h11 (And.intro h12 h13))
       clear h11 h12 h13 hw1))
  go_quiet (fail)
  go_wp2_with (first
    | (go_at_call 12
       refine (put8_bad _ key en _ hz hzm).mono ?_
       rintro e w2 ⟨rfl, hb2⟩
       rw [show En.zero.v = .agg #[.int .i64 0, .int .i64 0, .int .i64 0, .int .i64 0, .int .i64 0, .bool false] from rfl]
       have hs2 := hb2.size
       have HU := Lib.hid hb2
       clear hb2))
  refine bodyPost_ret (v := .tuple #[.bool false, .int .i64 42]) ?_ rfl ?_
  · simp [results, Try.results14, go_sem]
  refine ⟨rfl, ?_⟩
  exact (Below.trans (below_drewN H1.out.1 _) (HU.out.mono (by have := H1.out.1.size; simp; omega))).alloc (by have := H1.out.1.size; simp at hs2; omega) _

end Go.Proofs.Ytglmhpmjebjcgaa
/- chronicleref8: Point. -/
namespace Go.Proofs.Ytglmhpmjebjcgaa
open Go.RowKit Go.Maps

theorem flat_set2 (l : List KE) (i : Nat) (hi : i < l.length) (k : ByteArray) (o : En) (sg at_ : Int) (hk : l[i] = (k, o)) :
    (l.set i (k, ⟨sg, at_, o.size, o.off, o.time, o.tomb⟩)).flatMap keC = ((l.flatMap keC).set (i * 7 + 1) (.int .i64 sg)).set (i * 7 + 2) (.int .i64 at_) := by
  induction l generalizing i with
  | nil => simp at hi
  | cons q l ih =>
    cases i with
    | zero =>
      have : q = (k, o) := by simpa using hk
      subst this
      simp [keC, En.cells]
    | succ i =>
      have e7 : (i + 1) * 7 = i * 7 + 7 := by omega
      have hl : (keC q).length = 7 := rfl
      have h2 : i < l.length := by simpa using hi
      have := ih i h2 (by simpa using hk)
      simp only [List.set_cons_succ, List.flatMap_cons, this, e7]
      rw [List.set_append_right _ _ (by omega), List.set_append_right _ _ (by omega), hl, show i * 7 + 7 + 1 - 7 = i * 7 + 1 by omega, show i * 7 + 7 + 2 - 7 = i * 7 + 2 by omega]
theorem row_set2 {w : World} {B g c i : Nat} {xs : List KE} {k : ByteArray} {o : En} (sg at_ : Int) (h : w.ownsRow B 58 7 (.slice (some ⟨g, 0, none⟩) xs.length c) xs.length (xs.flatMap keC)) (hi : i < xs.length) (hk : xs[i] = (k, o)) :
    ((w.setCell ⟨g, i * 7 + 1, none⟩ (.int .i64 sg)).setCell ⟨g, i * 7 + 2, none⟩ (.int .i64 at_)).ownsRow B 58 7 (.slice (some ⟨g, 0, none⟩) xs.length c) (xs.set i (k, ⟨sg, at_, o.size, o.off, o.time, o.tomb⟩)).length ((xs.set i (k, ⟨sg, at_, o.size, o.off, o.time, o.tomb⟩)).flatMap keC) := by
  refine ⟨by rw [keC_len], .inr ?_⟩
  rcases h.2 with ⟨hv, _⟩ | ⟨g', c', cur, hv, hg, hh, hnc, hcm, hsz, htk⟩
  · cases hv
  · injection hv with e1 _ e2
    injection e1 with e1
    injection e1 with e1
    subst e1 e2
    refine ⟨g, c, (cur.setIfInBounds (i * 7 + 1) (.int .i64 sg)).setIfInBounds (i * 7 + 2) (.int .i64 at_), by simp, hg, ?_, by simpa using hnc, hcm, by simpa using hsz, ?_⟩
    · simp [World.setCell, Array.getElem?_modify, hh]
    · rw [flat_set2 xs i hi k o sg at_ hk]
      simp only [Array.toList_setIfInBounds, List.take_set, List.length_set, htk]
theorem RR.set2 {w : World} {B d n c g r : Nat} {xs : List KE} {key : ByteArray} {o : En} (sg at_ : Int) (h : RR w B d (.slice (some ⟨g, 0, none⟩) n c) xs) (hn : xs.length = n) (hi : r < xs.length) (hx : xs[r] = (key, o)) :
    RR ((w.setCell ⟨g, r * 7 + 1, none⟩ (.int .i64 sg)).setCell ⟨g, r * 7 + 2, none⟩ (.int .i64 at_)) B d (.slice (some ⟨g, 0, none⟩) n c) (putL key ⟨sg, at_, o.size, o.off, o.time, o.tomb⟩ xs) := by
  subst hn
  have hne := h.ne
  have hz := h.2.2.2 _ (List.getElem_mem hi)
  rw [hx] at hz
  have h7 := row_set2 sg at_ h.2.1 hi hx
  rw [put_at h.2.2.1 r hi hx] at h7
  refine ⟨(h.1.far hne _).far hne _, ?_, h.2.2.1.put key _, h.2.2.2.put hz⟩
  have hl : (putL key ⟨sg, at_, o.size, o.off, o.time, o.tomb⟩ xs).length = xs.length := by rw [← put_at h.2.2.1 r hi hx _, List.length_set]
  rw [hl] at h7 ⊢
  exact h7

set_option maxRecDepth 100000 in
set_option maxHeartbeats 8000000 in
theorem point8_none (B d : Nat) (v : Value) (key : ByteArray) (off seg at_ : Int) (xs : List KE) (w : World) (h : RR w B d v xs) (hz : key.size ≤ maxLen) (hc : xs.length ≤ 2199023255480) (hg : getL key xs = none) :
    Calls Try.prog 16 #[.pointer (some ⟨d, 0, none⟩), .string key, .int .i64 off, .int .i64 seg, .int .i64 at_] w fun e w' => e = .returned (.bool false) ∧ Below w.heap.size w w' := by
  have H := Lib.hid (And.intro h (And.intro hg hc))
  clear h hg hc
  go_enter Try.func16, Try.ntmps16
  go_wp2_with (first
    | (go_at_call 42
       refine (at_no B d v key xs _ H.out.1 hz (by have := H.out.2.2; omega) H.out.2.1).mono ?_
       rintro e w1 ⟨rfl, n1, rfl⟩))
  go_wp2
  go_ret
  exact ⟨rfl, below_drewN (Below.refl _ _) _⟩

set_option maxRecDepth 100000 in
set_option maxHeartbeats 8000000 in
theorem point8_other (B d : Nat) (v : Value) (key : ByteArray) (off seg at_ : Int) (xs : List KE) (o : En) (w : World) (h : RR w B d v xs) (hz : key.size ≤ maxLen) (hc : xs.length ≤ 2199023255480) (hg : getL key xs = some o) (ho : ¬ o.off = off) :
    Calls Try.prog 16 #[.pointer (some ⟨d, 0, none⟩), .string key, .int .i64 off, .int .i64 seg, .int .i64 at_] w fun e w' => e = .returned (.bool false) ∧ Below w.heap.size w w' := by
  obtain ⟨g, c, r, rfl, hr, ⟨hi, hx⟩, hcap, hgl, a0, a1, a2, a3, a4, a5, a6, _⟩ := h.place hg
  have hR := h
  obtain ⟨nx, hnx⟩ : ∃ nx, xs.length = nx := ⟨_, rfl⟩
  have hi' := hi
  rw [hnx] at hcap hR hi'
  have hdc := hR.1.cell 0
  have hne : (o.off != off) = true := by simpa using ho
  have H := Lib.hid (And.intro hR (And.intro hg (And.intro hc (And.intro hr (And.intro hnx a4)))))
  have hr0 : (0 : Int) ≤ r := by omega
  have hr1 : (r : Int) < nx := by omega
  clear h hg hc a0 a1 a2 a3 a5 a6 hx hr hi hnx hR
  go_enter Try.func16, Try.ntmps16
  go_wp2_with (first
    | (go_at_call 42
       refine (at_yes B d _ key xs o r _ H.out.1 hz (by have := H.out.2.2.1; omega) H.out.2.1 H.out.2.2.2.1).mono ?_
       rintro e w1 ⟨rfl, n1, rfl⟩))
  go_wp2
  go_ret
  exact ⟨rfl, below_drewN (Below.refl _ _) _⟩

set_option maxRecDepth 100000 in
set_option maxHeartbeats 8000000 in
theorem point8_yes (B d : Nat) (v : Value) (key : ByteArray) (off seg at_ : Int) (xs : List KE) (o : En) (w : World) (h : RR w B d v xs) (hz : key.size ≤ maxLen) (hc : xs.length ≤ 2199023255480) (hg : getL key xs = some o) (ho : o.off = off) :
    Calls Try.prog 16 #[.pointer (some ⟨d, 0, none⟩), .string key, .int .i64 off, .int .i64 seg, .int .i64 at_] w fun e w' => e = .returned (.bool true) ∧ RU w w' B d v (putL key ⟨seg, at_, o.size, o.off, o.time, o.tomb⟩ xs) := by
  obtain ⟨g, c, r, rfl, hr, ⟨hi, hx⟩, hcap, hgl, a0, a1, a2, a3, a4, a5, a6, af⟩ := h.place hg
  have hR := h
  obtain ⟨nx, hnx⟩ : ∃ nx, xs.length = nx := ⟨_, rfl⟩
  have HX := Lib.hid (And.intro hi hx)
  rw [hnx] at hcap hR hi ⊢
  have hdc := hR.1.cell 0
  have hne : (o.off != off) = false := by simpa using ho
  have hdg := hR.ne
  have H := Lib.hid (And.intro hR (And.intro hg (And.intro hc (And.intro hr hnx))))
  have af1 := af (r * 7 + 1)
  have af2 := af (r * 7 + 2)
  have hr0 : (0 : Int) ≤ r := by omega
  have hr1 : (r : Int) < nx := by omega
  clear h hg hc a0 a3 a5 a6 hx hr hi hnx hR af
  go_enter Try.func16, Try.ntmps16
  go_wp2_with (first
    | (go_at_call 42
       refine (at_yes B d _ key xs o r _ H.out.1 hz (by have := H.out.2.2.1; omega) H.out.2.1 H.out.2.2.2.1).mono ?_
       rintro e w1 ⟨rfl, n1, rfl⟩))
  go_wp2
  go_ret
  have h2 := RR.set2 seg at_ (H.out.1.below (below_drewN (Below.refl _ _) n1)) H.out.2.2.2.2 HX.out.1 HX.out.2
  refine ⟨rfl, ⟨_, h2, .inl rfl⟩, ?_⟩
  refine Chg.setCell (Chg.setCell ?_ (.inl (.inr rfl)) _) (.inl (.inr rfl)) _
  exact Chg.of_below (below_drewN (Below.refl _ _) n1) _
end Go.Proofs.Ytglmhpmjebjcgaa
/- chronicleref8: Remove. -/
namespace Go.Proofs.Ytglmhpmjebjcgaa
open Go.RowKit Go.Maps

theorem del_at {xs : List KE} (hs : Sorted xs) {key : ByteArray} {o : En} (r : Nat) (hi : r < xs.length) (hx : xs[r] = (key, o)) : delL key xs = xs.take r ++ xs.drop (r + 1) := by
  have h := split_at xs r hi
  rw [hx] at h
  have hs2 : Sorted (xs.take r ++ (key, o) :: xs.drop (r + 1)) := by rw [← h]; exact hs
  have h2 := del_same hs2
  rw [← h] at h2
  exact h2

set_option maxRecDepth 100000 in
set_option maxHeartbeats 8000000 in
theorem rem8_no (B d : Nat) (v : Value) (key : ByteArray) (xs : List KE) (w : World) (h : RR w B d v xs) (hz : key.size ≤ maxLen) (hc : xs.length ≤ 2199023255480) (hg : getL key xs = none) :
    Calls Try.prog 20 #[.pointer (some ⟨d, 0, none⟩), .string key] w fun e w' => e = .returned (.tuple #[En.zero.v, .bool false]) ∧ Below w.heap.size w w' := by
  have hb0 := bal w (.cells #[.int .i64 0, .int .i64 0, .int .i64 0, .int .i64 0, .int .i64 0, .bool false] 38)
  have hX0 := Box.new w 38 #[.int .i64 0, .int .i64 0, .int .i64 0, .int .i64 0, .int .i64 0, .bool false]
  have H := Lib.hid (And.intro hb0 (And.intro hX0 (And.intro (h.below hb0) (And.intro hg hc))))
  clear h hb0 hX0 hg hc
  go_enter Try.func20, Try.ntmps20
  go_wp2_with (first
    | (go_at_call 42
       refine (at_no B d v key xs _ H.out.2.2.1 hz (by have := H.out.2.2.2.2; omega) H.out.2.2.2.1).mono ?_
       rintro e w1 ⟨rfl, n, hw1⟩
       have hx1 := H.out.2.1.drewN n
       rw [← hw1] at hx1
       have hxc := hx1.cell
       have hxf := hx1.free
       have H1 := Lib.hid (show Below w.heap.size w w1 by rw [hw1]; exact below_drewN H.out.1 n)
       clear hx1 hw1))
  refine bodyPost_ret (v := .tuple #[En.zero.v, .bool false]) ?_ rfl ?_
  · simp [results, Try.results20, go_sem, hxc, En.zero]
  refine ⟨rfl, ?_⟩
  repeat (first | with_reducible exact H1.out | refine Below.setCell ?_ (by simp) _)

set_option maxRecDepth 100000 in
set_option maxHeartbeats 8000000 in
theorem rem8_yes (B d : Nat) (v : Value) (key : ByteArray) (o : En) (xs : List KE) (w : World) (h : RR w B d v xs) (hz : key.size ≤ maxLen) (hc : xs.length ≤ 2199023255480) (hg : getL key xs = some o) (hB : B ≤ w.heap.size) :
    Calls Try.prog 20 #[.pointer (some ⟨d, 0, none⟩), .string key] w fun e w' => e = .returned (.tuple #[o.v, .bool true]) ∧ RU w w' B d v (delL key xs) := by
  obtain ⟨i1, hi1, hz1, hs1, hy1⟩ := info_parts infoKE
  obtain ⟨A, c, rfl, hRd, hcap⟩ := h.rd
  obtain ⟨r, hr⟩ : ∃ r, (lo key xs).length = r := ⟨_, rfl⟩
  obtain ⟨hi, hx⟩ : ∃ hi : r < xs.length, xs[r] = (key, o) := hr ▸ getL_at h.2.2.1 hg
  obtain ⟨ad, rfl, had, a0, a1, a2, a3, a4, a5, a6⟩ := hRd.ke hi
  rw [hx] at a1 a2 a3 a4 a5 a6
  have hdl := h.1.lt
  have hb0 := bal w (.cells #[.int .i64 0, .int .i64 0, .int .i64 0, .int .i64 0, .int .i64 0, .bool false] 38)
  have hX0 := Box.new w 38 #[.int .i64 0, .int .i64 0, .int .i64 0, .int .i64 0, .int .i64 0, .bool false]
  have hR := h.below hb0
  obtain ⟨nx, hnx⟩ : ∃ nx, xs.length = nx := ⟨_, rfl⟩
  have HX := Lib.hid (And.intro hi hx)
  have HI := Lib.hid (And.intro (del_at h.2.2.1 r hi hx) (And.intro (h.2.2.1.del key) (And.intro (h.2.2.2.del (k := key)) hc)))
  rw [hnx] at hcap hR hi hc ⊢
  have H := Lib.hid (And.intro hb0 (And.intro hX0 (And.intro hR (And.intro hRd (And.intro hg (And.intro hr hnx))))))
  have HA := Lib.hid (And.intro a1 (And.intro a2 (And.intro a3 (And.intro a4 (And.intro a5 a6)))))
  have hr0 : (0 : Int) ≤ r := by omega
  have hr1 : (r : Int) < nx := by omega
  have hrl : r ≤ nx := by omega
  have hsl1 := run_head (some ad) nx c r (by omega)
  have hsl2 : ∀ W, (Instr.slice 43 (.slice (some ad) nx c) (some (.int .i64 ((r : Int) + 1))) none none).run Try.prog W = .ok (.slice (restA (some ad) c (r + 1)) (nx - (r + 1)) (c - (r + 1))) W := by simpa using run_rest (some ad) nx c (r + 1) (by omega)
  clear h hR hRd hb0 hX0 hg hr hnx hx a0 a1 a2 a3 a4 a5 a6
  go_enter Try.func20, Try.ntmps20
  go_wp2_with (first
    | (go_at_call 42
       refine (at_yes B d _ key xs o r _ H.out.2.2.1 hz (by have := HI.out.2.2.2; omega) H.out.2.2.2.2.1 H.out.2.2.2.2.2.1).mono ?_
       rintro e w1 ⟨rfl, n1, hw1⟩
       have h11 := below_drewN H.out.1 n1
       have h13 := H.out.2.1.drewN n1
       have h14 := H.out.2.2.1.below (below_drewN (Below.refl _ _) n1)
       rw [← hw1] at h11 h13 h14
       obtain ⟨ad', e1, had1, a0, a1, a2, a3, a4, a5, a6⟩ := (H.out.2.2.2.1.below h11).ke HX.out.1
       injection e1 with e1
       subst e1
       rw [HX.out.2] at a1 a2 a3 a4 a5 a6
       have hdc := h14.1.cell 0
       have hdf := h14.1.free 0
       have hdl1 := h14.1.lt
       have hs1' := h11.size
       have hrd := (H.out.2.2.2.1.below h11).mono h11.size
       have H1 := Lib.hid (And.intro h11 (And.intro h13 (And.intro h14 hrd)))
       have hxc1 := h13.cell
       have hxf1 := h13.free
       have hxl1 := h13.lt
       clear h11 h13 h14 hrd hw1 a0)
    | (at_builtin
       refine wpList_app _ rfl (.tmp 23) (.tmp 29) _ rfl (w1.heap.size + 1) 58 i1 _ 7 64 Try.underlying43 hi1 hz1 hs1 hy1 rfl (by decide) (.slice none 0 0) 0 [] rfl (World.ownsRow_nil _ _ _ _) w1.heap.size (some ad) r c ((xs.take r).flatMap keC) rfl (by rw [keC_len, List.length_take, H.out.2.2.2.2.2.2, Nat.min_eq_left hrl]) ((H1.out.2.2.2.below (bal _ _)).part r) (one_ke _) (by unfold maxLen; omega) (by omega) (by simp) ?_
       intro v3 w3 hown hg3 hor
       rw [Nat.zero_add, List.nil_append] at hown
       obtain ⟨b3, c3, rfl⟩ := row_slice hown
       have hb3' : Below (w1.heap.size + 1) (w1.alloc (.cells #[.int .i64 o.seg, .int .i64 o.at_, .int .i64 o.size, .int .i64 o.off, .int .i64 o.time, .bool o.tomb] 38)) w3 := (Below.refl _ _).grown hg3 (by simp) (fun j e => by cases e)
       have hb3 : Below w1.heap.size w1 w3 := (bal w1 _).trans (hb3'.mono (by omega))
       have q6 := (Box.new w1 38 #[.int .i64 o.seg, .int .i64 o.at_, .int .i64 o.size, .int .i64 o.off, .int .i64 o.time, .bool o.tomb]).below hb3' (by omega)
       have q1 := H1.out.2.1.below hb3 H1.out.2.1.lt
       have q4 := H1.out.2.2.1.below hb3
       have hdc3 := q4.1.cell 0
       have hdl3 := q4.1.lt
       have hs3 : w1.heap.size + 1 ≤ w3.heap.size := by have := hb3'.size; simp at this; omega
       have H3 := Lib.hid (And.intro hown (And.intro hb3 (And.intro q1 (And.intro q4 (And.intro (H1.out.2.2.2.below hb3) q6)))))
       clear hown hg3 hor hb3 hb3' q1 q4 q6 hdc hdf)
    | (at_builtin
       refine wpList_app _ rfl (.tmp 31) (.tmp 38) _ rfl (w1.heap.size + 1) 58 i1 _ 7 64 Try.underlying43 hi1 hz1 hs1 hy1 rfl (by decide) (.slice b3 r c3) r _ rfl H3.out.1 _ (restA (some ad) c (r + 1)) (nx - (r + 1)) (c - (r + 1)) ((xs.drop (r + 1)).flatMap keC) rfl (by rw [keC_len, List.length_drop, H.out.2.2.2.2.2.2]) (H3.out.2.2.2.2.1.restA (by rw [H.out.2.2.2.2.2.2]; omega) (by rw [H.out.2.2.2.2.2.2]; exact hcap)) (one_ke _) (by unfold maxLen; omega) (by omega) (by omega) ?_
       intro v5 w5 hown hg5 hor
       rw [show r + (nx - (r + 1)) = nx - 1 by omega] at hown
       obtain ⟨b5, c5, rfl⟩ := row_slice hown
       have hb5' : Below (w1.heap.size + 1) w3 w5 := (Below.refl _ _).grown hg5 (by omega) (fun j e => (H3.out.1.lt j e).1)
       have hb5 : Below w1.heap.size w1 w5 := H3.out.2.1.trans (hb5'.mono (by omega))
       have q6 := H3.out.2.2.2.2.2.below hb5' (by omega)
       have hoc5 := q6.cell
       have hof5 := q6.free
       have hol5 := q6.lt
       have q1 := H1.out.2.1.below hb5 H1.out.2.1.lt
       have q4 := H1.out.2.2.1.below hb5
       have hdc5 := q4.1.cell 0
       have hdf5 := q4.1.free 0
       have hdl5 := q4.1.lt
       have hzc5 := q1.cell
       have hzf5 := q1.free
       have hzl5 := q1.lt
       have hs5 : w1.heap.size + 1 ≤ w5.heap.size := by have := hb5'.size; omega
       have H5 := Lib.hid (And.intro hown (And.intro hb5 (And.intro q1 q4)))
       clear hown hg5 hor hb5 hb5' q1 q4 q6 hdc3 H3))
  refine bodyPost_ret (v := .tuple #[o.v, .bool true]) ?_ rfl ?_
  · simp [results, Try.results20, go_sem, hzc5]
  have hw1 := H1.out.1.size
  have hB1 : Below w.heap.size w w5 := H1.out.1.trans (H5.out.2.1.mono hw1)
  have hrow := row_le H5.out.1 (show B ≤ w1.heap.size + 1 by omega)
  rw [← List.flatMap_append, ← HI.out.1] at hrow
  have hln : (delL key xs).length = nx - 1 := by
    rw [HI.out.1, List.length_append, List.length_take, List.length_drop, H.out.2.2.2.2.2.2]
    omega
  have hfar : ∀ k, (Value.slice b5 (nx - 1) c5).ownBlock = some k → w1.heap.size + 1 ≤ k := fun k hk => (H5.out.1.lt k hk).1
  refine ⟨rfl, ⟨.slice b5 (nx - 1) c5, ?_, .inr fun j hj => Nat.le_trans (by omega) (hfar j hj)⟩, ?_⟩
  · iterate 6 refine RR.far ?_ (by show d ≠ w.heap.size; omega) (fun k hk => by have := hfar k hk; show k ≠ w.heap.size; omega) _
    refine ⟨by simpa using H5.out.2.2.2.1.set_ 0 (.slice b5 (nx - 1) c5), ?_, HI.out.2.1, HI.out.2.2.1⟩
    rw [hln]
    exact row_far hrow (fun k hk => by have := hfar k hk; show k ≠ d; omega) _
  · iterate 6 refine Chg.setCell ?_ (.inr (by show w.heap.size ≤ w.heap.size; omega)) _
    refine Chg.setCell ?_ (.inl (.inl rfl)) _
    exact Chg.of_below hB1 _
end Go.Proofs.Ytglmhpmjebjcgaa
/- chronicleref8: Nth, New, Freeze. -/
namespace Go.Proofs.Ytglmhpmjebjcgaa
open Go.RowKit Go.Maps

set_option maxRecDepth 100000 in
set_option maxHeartbeats 8000000 in
theorem nth8_none (B d : Nat) (v : Value) (k : Int) (xs : List KE) (w : World) (h : RR w B d v xs) (hk : k < 0 ∨ (xs.length : Int) ≤ k) :
    Calls Try.prog 26 #[.pointer (some ⟨d, 0, none⟩), .int .i64 k] w fun e w' => e = .returned (.tuple #[.agg #[.string ⟨#[]⟩, .int .i64 0, .int .i64 0, .int .i64 0, .int .i64 0, .int .i64 0, .bool false], .bool false]) ∧ Below w.heap.size w w' := by
  obtain ⟨A, c, rfl, hR, hcap⟩ := h.rd
  have hb0 := bal w (.cells #[.string ⟨#[]⟩, .int .i64 0, .int .i64 0, .int .i64 0, .int .i64 0, .int .i64 0, .bool false] 58)
  have hX0 := Box.new w 58 #[.string ⟨#[]⟩, .int .i64 0, .int .i64 0, .int .i64 0, .int .i64 0, .int .i64 0, .bool false]
  have hdc := (h.below hb0).1.cell 0
  have hxc := hX0.cell
  have hxf := hX0.free
  obtain ⟨nx, hnx⟩ : ∃ nx, xs.length = nx := ⟨_, rfl⟩
  rw [hnx] at hdc hk
  have HB := Lib.hid hb0
  clear h hR hb0 hX0 hcap hnx
  rcases (show k < 0 ∨ (¬ k < 0 ∧ (nx : Int) ≤ k) by omega) with h1 | ⟨h1, h2⟩
  all_goals
    clear hk
    go_enter Try.func26, Try.ntmps26
    go_wp2
    refine bodyPost_ret (v := .tuple #[.agg #[.string ⟨#[]⟩, .int .i64 0, .int .i64 0, .int .i64 0, .int .i64 0, .int .i64 0, .bool false], .bool false]) ?_ rfl ?_
    · simp [results, Try.results26, go_sem, hxc]
    refine ⟨rfl, ?_⟩
    repeat (first | with_reducible exact HB.out | refine Below.setCell ?_ (by simp) _)

set_option maxRecDepth 100000 in
set_option maxHeartbeats 8000000 in
theorem nth8_some (B d k : Nat) (v : Value) (xs : List KE) (x : KE) (w : World) (h : RR w B d v xs) (hx : xs[k]? = some x) :
    Calls Try.prog 26 #[.pointer (some ⟨d, 0, none⟩), .int .i64 k] w fun e w' => e = .returned (.tuple #[keV x, .bool true]) ∧ Below w.heap.size w w' := by
  have hb0 := bal w (.cells #[.string ⟨#[]⟩, .int .i64 0, .int .i64 0, .int .i64 0, .int .i64 0, .int .i64 0, .bool false] 58)
  obtain ⟨A, c, rfl, hR, hcap⟩ := (h.below hb0).rd
  obtain ⟨hi, hx⟩ := List.getElem?_eq_some_iff.1 hx
  obtain ⟨ad, rfl, had, a0, a1, a2, a3, a4, a5, a6⟩ := hR.ke hi
  rw [hx] at a0 a1 a2 a3 a4 a5 a6
  have hX0 := Box.new w 58 #[.string ⟨#[]⟩, .int .i64 0, .int .i64 0, .int .i64 0, .int .i64 0, .int .i64 0, .bool false]
  have hdc := (h.below hb0).1.cell 0
  have hxc := hX0.cell
  have hxf := hX0.free
  obtain ⟨nx, hnx⟩ : ∃ nx, xs.length = nx := ⟨_, rfl⟩
  rw [hnx] at hdc hi hcap
  have hk0 : (0 : Int) ≤ k := by omega
  have hk1 : (k : Int) < nx := by omega
  have HB := Lib.hid hb0
  clear h hR hb0 hX0 hx hnx
  obtain ⟨x1, x2⟩ := x
  go_enter Try.func26, Try.ntmps26
  go_wp2
  refine bodyPost_ret (v := .tuple #[keV (x1, x2), .bool true]) ?_ rfl ?_
  · simp [results, Try.results26, go_sem]
  exact ⟨rfl, bal _ _⟩

set_option maxRecDepth 100000 in
theorem new8 (B : Nat) (w : World) : Calls Try.prog 5 #[] w fun e w' => e = .returned (.pointer (some ⟨w.heap.size, 0, none⟩)) ∧ RR w' B w.heap.size (.slice none 0 0) [] ∧ Below w.heap.size w w' := by
  go_enter Try.func5, Try.ntmps5
  go_wp2
  go_ret
  exact ⟨rfl, ⟨Box.new .., World.ownsRow_nil _ _ _ _, List.Pairwise.nil, fun x hx => by cases hx⟩, bal _ _⟩

set_option maxRecDepth 100000 in
set_option maxHeartbeats 8000000 in
theorem freeze8 (B d : Nat) (v : Value) (xs : List KE) (w : World) (h : RR w B d v xs) (hc : xs.length ≤ 2199023255480) (hB : B ≤ w.heap.size) :
    Calls Try.prog 36 #[.pointer (some ⟨d, 0, none⟩)] w fun e w' => e = .returned (.pointer (some ⟨w.heap.size, 0, none⟩)) ∧ (∃ v', RR w' B w.heap.size v' xs ∧ ∀ j, v'.ownBlock = some j → w.heap.size < j) ∧ Below w.heap.size w w' := by
  obtain ⟨i1, hi1, hz1, hs1, hy1⟩ := info_parts infoKE
  obtain ⟨A, c, rfl, hR, hcap⟩ := h.rd
  have hdl := h.1.lt
  have hdc := h.1.cell 0
  have H := Lib.hid (And.intro h hR)
  obtain ⟨nx, hnx⟩ : ∃ nx, xs.length = nx := ⟨_, rfl⟩
  have HN := Lib.hid hnx
  rw [hnx] at hcap hc hdc
  clear h hR hnx
  go_enter Try.func36, Try.ntmps36
  go_wp2
  have k0 := bal w (.cells #[.slice none 0 0] 45)
  have k1 := Box.new w 45 #[.slice none 0 0]
  have k2 := H.out.1.below k0
  have k3 := (H.out.2.below k0).mono k0.size
  have k4 : (w.alloc (.cells #[.slice none 0 0] 45)).heap.size = w.heap.size + 1 := World.size_alloc ..
  generalize w.alloc (.cells #[.slice none 0 0] 45) = W1 at k0 k1 k2 k3 k4 ⊢
  rw [HN.out] at k2
  have hfc := k1.cell 0
  have hff := k1.free 0
  have hdc1 := k2.1.cell 0
  have hdf1 := k2.1.free 0
  have H1 := Lib.hid (And.intro k0 (And.intro k1 (And.intro k2 k3)))
  clear k0 k1 k2 k3 hdc
  obtain ⟨W8, hW8⟩ : ∃ W8, W1.drew = W8 := ⟨_, rfl⟩
  have k0 := H1.out.1.drew
  have k1 := H1.out.2.1.drew
  have k2 := H1.out.2.2.1.below (Below.refl _ _).drew
  have k3 : Rd W1.drew W1.drew.heap.size A (xs.flatMap keC) := H1.out.2.2.2.below (Below.refl _ _).drew
  have k4' : W1.drew.heap.size = w.heap.size + 1 := k4
  rw [hW8] at k0 k1 k2 k3 k4'
  have hS0 : (fun w' : World => w'.cell? ⟨w.heap.size, 0, none⟩ = some (.slice none 0 0) ∧ w'.cell? ⟨d, 0, none⟩ = some (.slice A nx c)) W8 := ⟨k1.cell 0, k2.1.cell 0⟩
  have H8 := Lib.hid (And.intro k0 (And.intro k1 (And.intro k2 k3)))
  clear k0 k1 k2 k3 hfc hff hdc1 hdf1
  refine WT.start (fun w' : World => w'.cell? ⟨w.heap.size, 0, none⟩ = some (.slice none 0 0) ∧ w'.cell? ⟨d, 0, none⟩ = some (.slice A nx c)) 12 (by kernel_rfl) ?_
  rw [hW8]
  clear hW8
  refine WT.take 0 (v := ?_) rfl (by kernel_rfl) (by kernel_rfl) (by kernel_rfl) (by kernel_rfl) (fun _ _ _ h => h) (Or.inl ⟨by rfl, ?hy⟩) hS0 ?_
  case hy => first | (intro w hSw; go_simp; done) | (intro w hSw; go_simp; with_reducible rfl)
  simp only [Act.put, List.setIfInBounds_toArray, List.set_cons_zero, List.set_cons_succ]
  refine WT.take 1 (v := ?_) rfl (by kernel_rfl) (by kernel_rfl) (by kernel_rfl) (by kernel_rfl) (fun _ _ _ h => h) (Or.inl ⟨by rfl, ?hy⟩) hS0 ?_
  case hy => first | (intro w hSw; go_simp; done) | (intro w hSw; go_simp; with_reducible rfl)
  simp only [Act.put, List.setIfInBounds_toArray, List.set_cons_zero, List.set_cons_succ]
  refine WT.take 2 (v := ?_) rfl (by kernel_rfl) (by kernel_rfl) (by kernel_rfl) (by kernel_rfl) (fun _ _ _ h => h) (Or.inl ⟨by rfl, ?hy⟩) hS0 ?_
  case hy => first | (intro w hSw; go_simp; done) | (intro w hSw; go_simp; with_reducible rfl)
  simp only [Act.put, List.setIfInBounds_toArray, List.set_cons_zero, List.set_cons_succ]
  refine WT.take 3 (v := ?_) rfl (by kernel_rfl) (by kernel_rfl) (by kernel_rfl) (by kernel_rfl) (fun _ _ _ h => h) (Or.inl ⟨by rfl, ?hy⟩) hS0 ?_
  case hy => first | (intro w hSw; go_simp; done) | (intro w hSw; go_simp; with_reducible rfl)
  simp only [Act.put, List.setIfInBounds_toArray, List.set_cons_zero, List.set_cons_succ]
  refine WT.take 4 (v := ?_) rfl (by kernel_rfl) (by kernel_rfl) (by kernel_rfl) (by kernel_rfl) (fun _ _ _ h => h) (Or.inl ⟨by rfl, ?hy⟩) hS0 ?_
  case hy => first | (intro w hSw; go_simp; done) | (intro w hSw; go_simp; with_reducible rfl)
  simp only [Act.put, List.setIfInBounds_toArray, List.set_cons_zero, List.set_cons_succ]
  refine WT.take 5 (v := ?_) rfl (by kernel_rfl) (by kernel_rfl) (by kernel_rfl) (by kernel_rfl) (fun _ _ _ h => h) (Or.inl ⟨by rfl, ?hy⟩) hS0 ?_
  case hy => first | (intro w hSw; go_simp; done) | (intro w hSw; go_simp; with_reducible rfl)
  simp only [Act.put, List.setIfInBounds_toArray, List.set_cons_zero, List.set_cons_succ]
  refine WT.take 6 (v := ?_) rfl (by kernel_rfl) (by kernel_rfl) (by kernel_rfl) (by kernel_rfl) (fun _ _ _ h => h) (Or.inl ⟨by rfl, ?hy⟩) hS0 ?_
  case hy => first | (intro w hSw; go_simp; done) | (intro w hSw; go_simp; with_reducible rfl)
  simp only [Act.put, List.setIfInBounds_toArray, List.set_cons_zero, List.set_cons_succ]
  refine WT.take 7 (v := ?_) rfl (by kernel_rfl) (by kernel_rfl) (by kernel_rfl) (by kernel_rfl) (fun _ _ _ h => h) (Or.inl ⟨by rfl, ?hy⟩) hS0 ?_
  case hy => first | (intro w hSw; go_simp; done) | (intro w hSw; go_simp; with_reducible rfl)
  simp only [Act.put, List.setIfInBounds_toArray, List.set_cons_zero, List.set_cons_succ]
  refine WT.take 8 (v := ?_) rfl (by kernel_rfl) (by kernel_rfl) (by kernel_rfl) (by kernel_rfl) (fun _ _ _ h => h) (Or.inl ⟨by rfl, ?hy⟩) hS0 ?_
  case hy => first | (intro w hSw; go_simp; done) | (intro w hSw; go_simp; with_reducible rfl)
  simp only [Act.put, List.setIfInBounds_toArray, List.set_cons_zero, List.set_cons_succ]
  refine WT.step 9 rfl (by kernel_rfl) (by decide) fun K hK => ?_
  refine step_app _ _ 43 (by rfl) (w.heap.size + 1) 58 i1 _ 7 64 Try.underlying43 hi1 hz1 hs1 hy1 rfl (by decide) (.slice none 0 0) 0 [] (by rfl) (World.ownsRow_nil _ _ _ _) W8.heap.size A nx c (xs.flatMap keC) (by rfl) (by rw [keC_len, HN.out]) H8.out.2.2.2 (one_ke _) (by unfold maxLen; omega) (by omega) (by omega) ?_
  intro v9 w9 hown hgr hor
  rw [Nat.zero_add, List.nil_append] at hown
  obtain ⟨b9, c9, rfl⟩ := row_slice hown
  have hb9 : Below (w.heap.size + 1) W8 w9 := (Below.refl _ _).grown hgr (by omega) (fun j e => by cases e)
  have q1 := H8.out.2.1.below hb9 (by omega)
  have q2 := H8.out.2.2.1.1.below hb9 (by omega)
  have hS9 : (fun w' : World => w'.cell? ⟨w.heap.size, 0, none⟩ = some (.slice none 0 0) ∧ w'.cell? ⟨d, 0, none⟩ = some (.slice A nx c)) w9 := ⟨q1.cell 0, q2.cell 0⟩
  have hfc := q1.cell 0
  have hff := q1.free 0
  have hfl := q1.lt
  have H9 := Lib.hid (And.intro hown (And.intro hb9 (And.intro q1 q2)))
  clear hown hgr hor hb9 q1 q2
  go_simp
  refine hK.out _ _ hS9 ?_
  clear hK K
  refine WT.step 10 rfl (by kernel_rfl) (by decide) fun K hK => ?_
  go_simp
  refine hK.out _ _ hS9 ?_
  clear hK K
  refine WT.take 11 (v := ?_) rfl (by kernel_rfl) (by kernel_rfl) (by kernel_rfl) (by kernel_rfl) (fun _ _ _ h => h) (Or.inl ⟨by rfl, ?hy⟩) hS9 ?_
  case hy => first | (intro w hSw; go_simp; done) | (intro w hSw; go_simp; with_reducible rfl)
  simp only [Act.put, List.setIfInBounds_toArray, List.set_cons_zero, List.set_cons_succ]
  refine WT.last 12 rfl (by kernel_rfl) rfl fun K hK => ?_
  go_simp
  refine hK.out _ _ ?_
  clear hK K
  refine WT.done (by kernel_rfl) ?_
  go_wp2
  go_ret
  refine ⟨rfl, ⟨.slice b9 nx c9, ?_, ?_⟩, ?_⟩
  · refine ⟨by simpa using H9.out.2.2.1.set_ 0 (.slice b9 nx c9), ?_, H.out.1.2.2⟩
    rw [HN.out]
    exact row_far (row_le H9.out.1 (by omega)) (fun k hk => by have := (H9.out.1.lt k hk).1; show k ≠ w.heap.size; omega) _
  · intro j hj
    exact (H9.out.1.lt j hj).1
  · exact ((H8.out.1.trans (H9.out.2.1.mono (by omega))).setCell (by show w.heap.size ≤ w.heap.size; omega) _)
end Go.Proofs.Ytglmhpmjebjcgaa
/- chronicleref8: Range. -/
namespace Go.Proofs.Ytglmhpmjebjcgaa
open Go.RowKit Go.Maps

theorem sel_next (lo hi : ByteArray) (xs : List KE) (k : Nat) (h : k < xs.length) : sel lo hi (xs.take (k + 1)) = sel lo hi (xs.take k) ++ if inR lo hi xs[k] then [xs[k]] else [] := by
  rw [List.take_succ_eq_append_getElem h]
  unfold sel
  rw [List.filter_append]
  cases e : inR lo hi xs[k] <;> simp [e]
theorem sel_pre (lo hi : ByteArray) (xs : List KE) (k n : Nat) (h : (sel lo hi (xs.take k)).length = n) : (sel lo hi xs).take n = sel lo hi (xs.take k) := by
  have : sel lo hi xs = sel lo hi (xs.take k) ++ sel lo hi (xs.drop k) := by unfold sel; rw [← List.filter_append, List.take_append_drop]
  rw [this, List.take_left' h]

theorem row_drewN {w : World} {base : Nat} {e : TypeId} {size n : Nat} {v : Value} {xs : List Value} (h : w.ownsRow base e size v n xs) (k : Nat) : (w.drewN k).ownsRow base e size v n xs := h

set_option maxRecDepth 100000 in
set_option maxHeartbeats 8000000 in
theorem range8 (B d : Nat) (v : Value) (lo hi : ByteArray) (lim : Int) (xs : List KE) (w : World) (h : RR w B d v xs) (hlo : lo.size ≤ maxLen) (hhi : hi.size ≤ maxLen) (hc : xs.length ≤ 2199023255480) :
    Calls Try.prog 29 #[.pointer (some ⟨d, 0, none⟩), .string lo, .string hi, .int .i64 lim] w (RV ((sel lo hi xs).take lim.toNat) w) := by
  obtain ⟨i1, hi1, hz1, hs1, hy1⟩ := info_parts infoKE
  obtain ⟨A, c, rfl, hR, hcap⟩ := h.rd
  obtain ⟨nx, hnx⟩ : ∃ nx, xs.length = nx := ⟨_, rfl⟩
  have hbx := h.1
  rw [hnx] at hbx hc hcap
  have hdl := hbx.lt
  have HD := Lib.hid (And.intro hbx (And.intro hR (And.intro h.2.2.2 hnx)))
  clear h hR hbx hnx
  go_enter Try.func29, Try.ntmps29
  go_wp2
  go_loopw [9, 10] (fun l i wr => ∃ (k m : Nat) (b : Option Addr) (c2 : Nat), k ≤ nx ∧ m ≤ k ∧ i = .int .i64 k ∧ l = .slice b m c2 ∧ (sel lo hi (xs.take k)).length = m ∧ (m : Int) ≤ max lim 0 ∧ wr.ownsRow w.heap.size 58 7 (.slice b m c2) m ((sel lo hi (xs.take k)).flatMap keC) ∧ Below w.heap.size w wr) (fun _ i _ => nx - (intOf i).toNat)
  case atStart => exact ⟨0, 0, none, 0, by omega, by omega, rfl, rfl, rfl, by omega, World.ownsRow_nil _ _ _ _, Below.refl _ _⟩
  case round =>
    obtain ⟨k, m, b, c2, hk, hmk, rfl, rfl, hsl, hml, hown, hb⟩ := hrel
    have hdx := (HD.out.1.below hb HD.out.1.lt).cell 0
    have hws := hb.size
    have HO := Lib.hid (And.intro hown hb)
    have HS := Lib.hid (And.intro hsl hml)
    clear hown hb hsl hml
    by_cases hlt : k < nx
    · have hlx : k < xs.length := by rw [HD.out.2.2.2]; exact hlt
      have hki : (k : Int) < nx := by omega
      have hk0 : (0 : Int) ≤ k := by omega
      by_cases hlm : (m : Int) < lim
      · obtain ⟨ad, rfl, had, a0, a1, a2, a3, a4, a5, a6⟩ := (Rd.below HD.out.2.1 HO.out.2).ke hlx
        have hzk := sz64 (HD.out.2.2.1 xs[k] (List.getElem_mem hlx)).2
        have hnx2 := sel_next lo hi xs k hlx
        generalize xs[k] = x at a0 a1 a2 a3 a4 a5 a6 hzk hnx2
        have HN := Lib.hid hnx2
        clear hnx2
        by_cases h1 : kc x.1 lo = -1
        · have hf : inR lo hi x = false := by simp [inR, h1]
          go_wp2_with (first
          | (go_at_call 48
             (with_reducible refine (compare8 x.1 lo _ hzk hlo).mono ?_)
             rintro e w1 ⟨⟨r1, rfl, hr⟩, n1, rfl⟩
             have hr1 : r1 < 0 := hr.2 h1
             have hrd1 : decide (r1 < 0) = true := decide_eq_true hr1
             clear hr))
          go_roundw
          case rel => exact ⟨k + 1, m, b, c2, by omega, by omega, by go_num, rfl, by rw [HN.out, hf]; simpa using HS.out.1, HS.out.2, by rw [HN.out, hf]; simpa using row_drewN HO.out.1 _, below_drewN HO.out.2 _⟩
          case measure => simp [intOf]; omega
        · by_cases hh : hi = ⟨#[]⟩
          · subst hh
            have hf : inR lo ⟨#[]⟩ x = true := by unfold inR; rw [decide_eq_true (show kc x.1 lo ≠ -1 from h1)]; rfl
            go_wp2_with (first
            | (go_at_call 48
               (with_reducible refine (compare8 x.1 lo _ hzk hlo).mono ?_)
               rintro e w1 ⟨⟨r1, rfl, hr⟩, n1, rfl⟩
               have hr1 : ¬ r1 < 0 := fun h => h1 (hr.1 h)
               have hrd1 : decide (r1 < 0) = false := decide_eq_false hr1
               clear hr)
            | (at_builtin
               refine wpList_app _ rfl (.tmp 49) (.tmp 57) _ rfl w.heap.size 58 i1 _ 7 64 Try.underlying43 hi1 hz1 hs1 hy1 rfl (by decide) (.slice b m c2) m _ rfl ((row_drewN HO.out.1 _).alloc _) _ _ 1 1 (keC x) rfl rfl (rd_new _ _ _) (by simpa using one_ke [x]) (by unfold maxLen; omega) (by omega) (by have := HO.out.2.size; simp; omega) ?_
               intro v4 w4 hown hg4 hor
               obtain ⟨b4, c4, rfl⟩ := row_slice hown
               have hb4 : Below w.heap.size w w4 := ((below_drewN HO.out.2 _).alloc (by have := HO.out.2.size; simp; omega) _).grown hg4 (by have := HO.out.2.size; simp; omega) (fun j e => (HO.out.1.lt j e).1)
               have H4 := Lib.hid (And.intro hown hb4)
               clear hown hg4 hor hb4))
            go_roundw
            case rel => exact ⟨k + 1, m + 1, b4, c4, by omega, by omega, by go_num, rfl, by rw [HN.out, hf]; simp [HS.out.1], by omega, by rw [HN.out, hf]; simpa [List.flatMap_append] using H4.out.1, H4.out.2⟩
            case measure => simp [intOf]; omega
          · have hhs : ¬ hi.size = 0 := fun e => hh (ByteArray.ext (Array.eq_empty_of_size_eq_zero e))
            have hkn : ¬ hi.toList = [] := fun e => by
              rw [ByteArray.toList_eq] at e
              exact hhs (by simpa using congrArg List.length e)
            have hke : hi.toList.isEmpty = false := by simpa using hkn
            by_cases h2 : kc x.1 hi = -1
            · have hf : inR lo hi x = true := by simp [inR, h1, h2]
              go_wp2_with (first
              | (go_at_call 48
                 (with_reducible refine (compare8 x.1 lo _ hzk hlo).mono ?_)
                 rintro e w1 ⟨⟨r1, rfl, hr⟩, n1, rfl⟩
                 have hr1 : ¬ r1 < 0 := fun h => h1 (hr.1 h)
                 have hrd1 : decide (r1 < 0) = false := decide_eq_false hr1
                 clear hr)
              | (go_at_call 48
                 (with_reducible refine (compare8 x.1 hi _ hzk hhi).mono ?_)
                 rintro e w1 ⟨⟨r2, rfl, hr⟩, n2, rfl⟩
                 have hr2 : r2 < 0 := hr.2 h2
                 have hrd2 : decide (r2 < 0) = true := decide_eq_true hr2
                 clear hr)
              | (at_builtin
                 refine wpList_app _ rfl (.tmp 49) (.tmp 57) _ rfl w.heap.size 58 i1 _ 7 64 Try.underlying43 hi1 hz1 hs1 hy1 rfl (by decide) (.slice b m c2) m _ rfl ((row_drewN HO.out.1 _).alloc _) _ _ 1 1 (keC x) rfl rfl (rd_new _ _ _) (by simpa using one_ke [x]) (by unfold maxLen; omega) (by omega) (by have := HO.out.2.size; simp; omega) ?_
                 intro v4 w4 hown hg4 hor
                 obtain ⟨b4, c4, rfl⟩ := row_slice hown
                 have hb4 : Below w.heap.size w w4 := ((below_drewN HO.out.2 _).alloc (by have := HO.out.2.size; simp; omega) _).grown hg4 (by have := HO.out.2.size; simp; omega) (fun j e => (HO.out.1.lt j e).1)
                 have H4 := Lib.hid (And.intro hown hb4)
                 clear hown hg4 hor hb4))
              go_roundw
              case rel => exact ⟨k + 1, m + 1, b4, c4, by omega, by omega, by go_num, rfl, by rw [HN.out, hf]; simp [HS.out.1], by omega, by rw [HN.out, hf]; simpa [List.flatMap_append] using H4.out.1, H4.out.2⟩
              case measure => simp [intOf]; omega
            · have hf : inR lo hi x = false := by simp [inR, h1, h2, hhs]
              go_wp2_with (first
              | (go_at_call 48
                 (with_reducible refine (compare8 x.1 lo _ hzk hlo).mono ?_)
                 rintro e w1 ⟨⟨r1, rfl, hr⟩, n1, rfl⟩
                 have hr1 : ¬ r1 < 0 := fun h => h1 (hr.1 h)
                 have hrd1 : decide (r1 < 0) = false := decide_eq_false hr1
                 clear hr)
              | (go_at_call 48
                 (with_reducible refine (compare8 x.1 hi _ hzk hhi).mono ?_)
                 rintro e w1 ⟨⟨r2, rfl, hr⟩, n2, rfl⟩
                 have hr2 : ¬ r2 < 0 := fun h => h2 (hr.1 h)
                 have hrd2 : decide (r2 < 0) = false := decide_eq_false hr2
                 clear hr))
              go_roundw
              case rel => exact ⟨k + 1, m, b, c2, by omega, by omega, by go_num, rfl, by rw [HN.out, hf]; simpa using HS.out.1, HS.out.2, by rw [HN.out, hf]; simpa using row_drewN HO.out.1 _, below_drewN HO.out.2 _⟩
              case measure => simp [intOf]; omega
      · go_wp2
        go_ret
        have hm : m = lim.toNat := by have := HS.out.2; omega
        refine ⟨.slice b m c2, rfl, ?_, HO.out.2⟩
        rw [sel_pre lo hi xs k _ (HS.out.1.trans hm), HS.out.1]
        exact HO.out.1
    · have hkx : xs.take k = xs := List.take_of_length_le (by rw [HD.out.2.2.2]; omega)
      go_wp2
      go_ret
      refine ⟨.slice b m c2, rfl, ?_, HO.out.2⟩
      have h1 := HS.out.1
      have h2 := HS.out.2
      have h3 := HO.out.1
      rw [hkx] at h1 h3
      rw [List.take_of_length_le (by omega), h1]
      exact h3
end Go.Proofs.Ytglmhpmjebjcgaa
/- chronicleref8: List, Begin. -/
namespace Go.Proofs.Ytglmhpmjebjcgaa
open Go.RowKit Go.Maps

set_option maxRecDepth 100000 in
set_option maxHeartbeats 4000000 in
theorem list8 (B d : Nat) (v : Value) (lo hi : ByteArray) (xs : List KE) (w : World) (h : RR w B d v xs) (hlo : lo.size ≤ maxLen) (hhi : hi.size ≤ maxLen) (hc : xs.length ≤ 2199023255480) :
    Calls Try.prog 33 #[.pointer (some ⟨d, 0, none⟩), .string lo, .string hi] w (RV (sel lo hi xs) w) := by
  obtain ⟨A, c, rfl, hR, hcap⟩ := h.rd
  have hdc := h.1.cell 0
  have hsl : (sel lo hi xs).take ((xs.length : Int)).toNat = sel lo hi xs := List.take_of_length_le (by have := List.length_filter_le (inR lo hi) xs; unfold sel; omega)
  have H := Lib.hid (And.intro h (And.intro hc hsl))
  clear h hc hsl hR hcap
  generalize hn : xs.length = n at *
  go_enter Try.func33, Try.ntmps33
  go_wp2_with (first
    | (go_at_call 29
       refine (range8 B d _ lo hi n xs _ H.out.1 hlo hhi (by rw [hn]; exact H.out.2.1)).mono ?_
       rintro e w1 ⟨u, rfl, h1, h2⟩
       rw [H.out.2.2] at h1
       have H1 := Lib.hid (And.intro h1 h2)
       clear h1 h2))
  go_ret
  exact ⟨u, rfl, H1.out.1, H1.out.2⟩

set_option maxRecDepth 100000 in
set_option maxHeartbeats 8000000 in
theorem begin8 (B d : Nat) (v : Value) (p : ByteArray) (xs : List KE) (w : World) (h : RR w B d v xs) (_hp : p.size ≤ maxLen) (hc : xs.length ≤ 2199023255480) :
    Calls Try.prog 34 #[.pointer (some ⟨d, 0, none⟩), .string p] w (RV (xs.filter (preB p)) w) := by
  obtain ⟨i1, hi1, hz1, hs1, hy1⟩ := info_parts infoKE
  obtain ⟨A, c, rfl, hR, hcap⟩ := h.rd
  obtain ⟨nx, hnx⟩ : ∃ nx, xs.length = nx := ⟨_, rfl⟩
  have hbx := h.1
  rw [hnx] at hbx hc hcap
  have hdl := hbx.lt
  have HD := Lib.hid (And.intro hbx (And.intro hR (And.intro h.2.2.2 hnx)))
  clear h hR hbx hnx
  go_enter Try.func34, Try.ntmps34
  go_wp2
  go_loopw [5, 6] (fun l i wr => ∃ (k m : Nat) (b : Option Addr) (c2 : Nat), k ≤ nx ∧ m ≤ k ∧ i = .int .i64 k ∧ l = .slice b m c2 ∧ ((xs.take k).filter (preB p)).length = m ∧ wr.ownsRow w.heap.size 58 7 (.slice b m c2) m (((xs.take k).filter (preB p)).flatMap keC) ∧ Below w.heap.size w wr) (fun _ i _ => nx - (intOf i).toNat)
  case atStart => exact ⟨0, 0, none, 0, by omega, by omega, rfl, rfl, rfl, World.ownsRow_nil _ _ _ _, Below.refl _ _⟩
  case round =>
    obtain ⟨k, m, b, c2, hk, hmk, rfl, rfl, hsl, hown, hb⟩ := hrel
    have hdx := (HD.out.1.below hb HD.out.1.lt).cell 0
    have hws := hb.size
    have HO := Lib.hid (And.intro hown hb)
    have HS := Lib.hid hsl
    clear hown hb hsl
    by_cases hlt : k < nx
    · have hlx : k < xs.length := by rw [HD.out.2.2.2]; exact hlt
      have hki : (k : Int) < nx := by omega
      have hk0 : (0 : Int) ≤ k := by omega
      obtain ⟨ad, rfl, had, a0, a1, a2, a3, a4, a5, a6⟩ := (Rd.below HD.out.2.1 HO.out.2).ke hlx
      have hzk := sz64 (HD.out.2.2.1 xs[k] (List.getElem_mem hlx)).2
      have hnx2 : (xs.take (k + 1)).filter (preB p) = (xs.take k).filter (preB p) ++ if preB p xs[k] then [xs[k]] else [] := by
        rw [List.take_succ_eq_append_getElem hlx, List.filter_append]
        cases e : preB p xs[k] <;> simp [e]
      generalize xs[k] = x at a0 a1 a2 a3 a4 a5 a6 hzk hnx2
      have HN := Lib.hid hnx2
      clear hnx2
      rcases (show x.1.size < p.size ∨ (p.size ≤ x.1.size ∧ x.1.extract 0 p.size = p) ∨ (p.size ≤ x.1.size ∧ ¬ x.1.extract 0 p.size = p) by
        rcases Nat.lt_or_ge x.1.size p.size with h | h
        · exact .inl h
        · exact .inr ((Classical.em (x.1.extract 0 p.size = p)).imp (fun e => ⟨h, e⟩) (fun e => ⟨h, e⟩))) with y1 | ⟨y1, y2⟩ | ⟨y1, y2⟩
      · have hpf : preB p x = false := by
          cases hh : preB p x with
          | false => rfl
          | true => have := ((pre_iff p x).1 hh).1; omega
        have d1 : decide ((p.size : Int) ≤ x.1.size) = false := decide_eq_false (by omega)
        have d2 : decide (p.size ≤ x.1.size) = false := decide_eq_false (by omega)
        go_wp2
        go_roundw
        case rel => exact ⟨k + 1, m, b, c2, by omega, by omega, by go_num, rfl, by rw [HN.out, hpf]; simpa using HS.out, by rw [HN.out, hpf]; simpa using HO.out.1, HO.out.2⟩
        case measure => simp [intOf]; omega
      · have hpf : preB p x = true := (pre_iff p x).2 ⟨y1, y2⟩
        have d1 : decide ((p.size : Int) ≤ x.1.size) = true := decide_eq_true (by omega)
        have d2 : decide (p.size ≤ x.1.size) = true := decide_eq_true y1
        have d3 : ((x.1.extract 0 p.size).toList == p.toList) = true := by rw [y2]; simp
        have y1' : (p.size : Int) ≤ x.1.size := by omega
        go_wp2_with (first
          | (at_builtin
             refine wpList_app _ rfl (.tmp 38) (.tmp 46) _ rfl w.heap.size 58 i1 _ 7 64 Try.underlying43 hi1 hz1 hs1 hy1 rfl (by decide) (.slice b m c2) m _ rfl (HO.out.1.alloc _) _ _ 1 1 (keC x) rfl rfl (rd_new _ _ _) (by simpa using one_ke [x]) (by unfold maxLen; omega) (by omega) (by have := HO.out.2.size; simp; omega) ?_
             intro v4 w4 hown hg4 hor
             obtain ⟨b4, c4, rfl⟩ := row_slice hown
             have hb4 : Below w.heap.size w w4 := (HO.out.2.alloc (by have := HO.out.2.size; simp; omega) _).grown hg4 (by have := HO.out.2.size; simp; omega) (fun j e => (HO.out.1.lt j e).1)
             have H4 := Lib.hid (And.intro hown hb4)
             clear hown hg4 hor hb4))
        go_roundw
        case rel => exact ⟨k + 1, m + 1, b4, c4, by omega, by omega, by go_num, rfl, by rw [HN.out, hpf]; simp [HS.out], by rw [HN.out, hpf]; simpa [List.flatMap_append] using H4.out.1, H4.out.2⟩
        case measure => simp [intOf]; omega
      · have hpf : preB p x = false := by
          cases hh : preB p x with
          | false => rfl
          | true => exact absurd ((pre_iff p x).1 hh).2 y2
        have d1 : decide ((p.size : Int) ≤ x.1.size) = true := decide_eq_true (by omega)
        have d2 : decide (p.size ≤ x.1.size) = true := decide_eq_true y1
        have d3 := key_ne y2
        have y1' : (p.size : Int) ≤ x.1.size := by omega
        go_wp2
        go_roundw
        case rel => exact ⟨k + 1, m, b, c2, by omega, by omega, by go_num, rfl, by rw [HN.out, hpf]; simpa using HS.out, by rw [HN.out, hpf]; simpa using HO.out.1, HO.out.2⟩
        case measure => simp [intOf]; omega
    · have hkx : xs.take k = xs := List.take_of_length_le (by rw [HD.out.2.2.2]; omega)
      go_wp2
      go_ret
      refine ⟨.slice b m c2, rfl, ?_, HO.out.2⟩
      have h1 := HS.out
      have h3 := HO.out.1
      rw [hkx] at h1 h3
      rw [h1]
      exact h3
end Go.Proofs.Ytglmhpmjebjcgaa
