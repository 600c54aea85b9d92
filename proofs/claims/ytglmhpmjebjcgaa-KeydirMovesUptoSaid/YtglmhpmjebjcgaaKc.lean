import Derived.Test.YtglmhpmjebjcgaaKa
import Derived.Deep.RegionWith
namespace Go.Proofs.Ytglmhpmjebjcgaa
open Go.RowKit Go.Maps

theorem cnt_of {t : Tn} {a b : List KE} {x : KE} (h : t.flat = a ++ x :: b) : t.cnt = a.length + b.length + 1 := by rw [Tn.cnt, h]; simp; omega
theorem nodeC_get (k : ByteArray) (e : En) (n : Nat) (p q : Option Addr) : (nodeC k e n p q)[0]? = some (.string k) ∧ (nodeC k e n p q)[1]? = some (.int .i64 e.seg) ∧ (nodeC k e n p q)[2]? = some (.int .i64 e.at_) ∧ (nodeC k e n p q)[3]? = some (.int .i64 e.size) ∧ (nodeC k e n p q)[4]? = some (.int .i64 e.off) ∧ (nodeC k e n p q)[5]? = some (.int .i64 e.time) ∧ (nodeC k e n p q)[6]? = some (.bool e.tomb) ∧ (nodeC k e n p q)[8]? = some (.pointer p) ∧ (nodeC k e n p q)[9]? = some (.pointer q) :=
  ⟨rfl, rfl, rfl, rfl, rfl, rfl, rfl, rfl, rfl⟩
/-- The cells of a node that the walk reads. -/
def NC (w : World) (b : Nat) (k : ByteArray) (e : En) (p q : Option Addr) : Prop :=
  w.cell? ⟨b, 0, none⟩ = some (.string k) ∧ w.cell? ⟨b, 1, none⟩ = some (.int .i64 e.seg) ∧ w.cell? ⟨b, 2, none⟩ = some (.int .i64 e.at_) ∧ w.cell? ⟨b, 3, none⟩ = some (.int .i64 e.size) ∧ w.cell? ⟨b, 4, none⟩ = some (.int .i64 e.off) ∧ w.cell? ⟨b, 5, none⟩ = some (.int .i64 e.time) ∧ w.cell? ⟨b, 6, none⟩ = some (.bool e.tomb) ∧ w.cell? ⟨b, 8, none⟩ = some (.pointer p) ∧ w.cell? ⟨b, 9, none⟩ = some (.pointer q)
def EC (w : World) (b : Nat) (e : En) : Prop :=
  w.cell? ⟨b, 0, none⟩ = some (.int .i64 e.seg) ∧ w.cell? ⟨b, 1, none⟩ = some (.int .i64 e.at_) ∧ w.cell? ⟨b, 2, none⟩ = some (.int .i64 e.size) ∧ w.cell? ⟨b, 3, none⟩ = some (.int .i64 e.off) ∧ w.cell? ⟨b, 4, none⟩ = some (.int .i64 e.time) ∧ w.cell? ⟨b, 5, none⟩ = some (.bool e.tomb)
theorem NC.of {w : World} {b n : Nat} {k : ByteArray} {e : En} {p q : Option Addr} (h : Box w b 79 (nodeC k e n p q)) : NC w b k e p q := by
  obtain ⟨h0, h1, h2, h3, h4, h5, h6, h8, h9⟩ := nodeC_get k e n p q
  exact ⟨(h.cell 0).trans h0, (h.cell 1).trans h1, (h.cell 2).trans h2, (h.cell 3).trans h3, (h.cell 4).trans h4, (h.cell 5).trans h5, (h.cell 6).trans h6, (h.cell 8).trans h8, (h.cell 9).trans h9⟩
theorem EC.of {w : World} {b : Nat} {t : TypeId} {e : En} (h : Box w b t e.cells.toArray) : EC w b e := ⟨h.cell 0, h.cell 1, h.cell 2, h.cell 3, h.cell 4, h.cell 5⟩
/-- A world that was reached from w, with all that was there. -/
def Aft (w W : World) : Prop := Below w.heap.size w W
theorem Aft.refl (w : World) : Aft w w := Below.refl _ _
theorem Aft.drew {w W : World} (h : Aft w W) : Aft w W.drew := Below.drew h
theorem Aft.drewN {w W : World} (h : Aft w W) {n : Nat} : Aft w (W.drewN n) := below_drewN h n
theorem quiet_same1 {P : Program} {f : FuncId} {args : Array Value} {w : World} {n : Nat} {v : Value} (h : Calls P f args (w.drewN n) fun e w' => e = .returned v ∧ w.drewN n = w') : Calls P f args (w.drewN n) fun e w'' => e = .returned v ∧ ∃ m, w'' = w.drewN m :=
  Calls.quiet_of_same (h.mono fun _ _ ⟨a, b⟩ => ⟨a, b.symm⟩)
theorem Aft.next {w W W' : World} (h : Aft w W) (hb : Below W.heap.size W W') : Aft w W' := Below.trans h (hb.mono (Below.size h))

theorem heavy_t {t u : Tn} {p q : Option Addr} {w : World} (h : Tr w w.heap.size t p) (k : Tr w w.heap.size u q) (ht : t.cnt ≤ 1000000000000000) (hu : u.cnt ≤ 1000000000000000) (hx : 3 * (u.cnt + 1) < t.cnt + 1) :
    Calls Try.prog 57 #[.pointer p, .pointer q] w fun e w' => e = .returned (.bool true) ∧ w = w' := by
  have := heavy_any t u p q _ w h k ht hu
  rwa [decide_eq_true hx] at this
theorem heavy_f {t u : Tn} {p q : Option Addr} {w : World} (h : Tr w w.heap.size t p) (k : Tr w w.heap.size u q) (ht : t.cnt ≤ 1000000000000000) (hu : u.cnt ≤ 1000000000000000) (hx : ¬ 3 * (u.cnt + 1) < t.cnt + 1) :
    Calls Try.prog 57 #[.pointer p, .pointer q] w fun e w' => e = .returned (.bool false) ∧ w = w' := by
  have := heavy_any t u p q _ w h k ht hu
  rwa [decide_eq_false hx] at this
theorem inner_t {t u : Tn} {p q : Option Addr} {w : World} (h : Tr w w.heap.size t p) (k : Tr w w.heap.size u q) (ht : t.cnt ≤ 1000000000000000) (hu : u.cnt ≤ 1000000000000000) (hx : 2 * (u.cnt + 1) ≤ t.cnt + 1) :
    Calls Try.prog 58 #[.pointer p, .pointer q] w fun e w' => e = .returned (.bool true) ∧ w = w' := by
  have := inner_any t u p q _ w h k ht hu
  rwa [decide_eq_true hx] at this
theorem inner_f {t u : Tn} {p q : Option Addr} {w : World} (h : Tr w w.heap.size t p) (k : Tr w w.heap.size u q) (ht : t.cnt ≤ 1000000000000000) (hu : u.cnt ≤ 1000000000000000) (hx : ¬ 2 * (u.cnt + 1) ≤ t.cnt + 1) :
    Calls Try.prog 58 #[.pointer p, .pointer q] w fun e w' => e = .returned (.bool false) ∧ w = w' := by
  have := inner_any t u p q _ w h k ht hu
  rwa [decide_eq_false hx] at this

set_option maxRecDepth 100000 in
set_option maxHeartbeats 8000000 in
/-- The right tree is too heavy: a single turn. -/
theorem even_r1 (k : ByteArray) (en : En) (l : Tn) (p : Option Addr) (hk : ByteArray) (he : En) (hl hr : Tn) (b : Nat) (p1 p2 : Option Addr) (w : World) (ho : Tr w w.heap.size l p) (hbw : b < w.heap.size) (h1 : Tr w w.heap.size hl p1) (h2 : Tr w w.heap.size hr p2)
    (hx : Box w b 79 (nodeC hk he (hl.cnt + hr.cnt + 1) p1 p2)) (hc : l.cnt + (hl.cnt + hr.cnt + 1) ≤ 900000000000000) (hh : 3 * (l.cnt + 1) < hl.cnt + hr.cnt + 1 + 1) (hi : ¬ 2 * (hr.cnt + 1) ≤ hl.cnt + 1) :
    Calls Try.prog 52 #[.string k, en.v, .pointer p, .pointer (some ⟨b, 0, none⟩)] w (MT (l.flat ++ (k, en) :: (hl.flat ++ (hk, he) :: hr.flat)) w) := by
  have hb0 : Below w.heap.size w (w.alloc (.cells en.cells.toArray 38)) := (Below.refl _ _).alloc (Nat.le_refl _) _
  have hE := Box.new w 38 en.cells.toArray
  have hR : Tr w w.heap.size (.node hk he hl hr) (some ⟨b, 0, none⟩) := ⟨b, p1, p2, rfl, hbw, by rw [Tn.cnt_node]; exact hx, h1, h2⟩
  have hT : ∀ W, Aft (w.alloc (.cells en.cells.toArray 38)) W → Tr W W.heap.size l p ∧ Tr W W.heap.size (.node hk he hl hr) (some ⟨b, 0, none⟩) ∧ Tr W W.heap.size hl p1 ∧ Tr W W.heap.size hr p2 ∧ NC W b hk he p1 p2 ∧ EC W w.heap.size en ∧ Below w.heap.size w W := fun W hW => by
    have hbW : Below w.heap.size w W := hb0.trans (Below.mono hW (by simp))
    exact ⟨ho.below hbW, hR.below hbW, h1.below hbW, h2.below hbW, NC.of (hx.below hbW hbw), EC.of (hE.below hW (by simp)), hbW⟩
  obtain ⟨_, _, _, _, hN, hEC, _⟩ := hT _ (Aft.refl _)
  have HT := Lib.hid hT
  have HC := Lib.hid (Tn.cnt_node hk he hl hr)
  clear hb0 hE hR hT ho h1 h2 hx
  obtain ⟨n0, n1, n2, n3, n4, n5, n6, n8, n9⟩ := hN
  obtain ⟨e0, e1, e2, e3, e4, e5⟩ := hEC
  unfold En.cells at *
  unfold En.v
  go_enter Try.func52, Try.ntmps52
  go_wp2
  go_region_held3 (fun w' => w'.cell? ⟨b, 8, none⟩ = some (.pointer p1) ∧ w'.cell? ⟨b, 9, none⟩ = some (.pointer p2)) (go_keep)
    (first
      | (go_at_call 57; (with_reducible refine (heavy_t (t := .node hk he hl hr) (u := l) ?_ ?_ ?_ ?_ ?_).mono ?_); (exact (HT.out _ (Aft.refl _).drew).2.1); (exact (HT.out _ (Aft.refl _).drew).1); (have := HC.out; omega); (have := HC.out; omega); (have := HC.out; omega); rintro e w' ⟨rfl, rfl⟩)
      | (go_at_call 58; (with_reducible refine (inner_f (t := hl) (u := hr) ?_ ?_ ?_ ?_ ?_).mono ?_); (exact (HT.out _ (Aft.refl _).drew).2.2.1); (exact (HT.out _ (Aft.refl _).drew).2.2.2.1); (have := HC.out; omega); (have := HC.out; omega); (have := HC.out; omega); rintro e w' ⟨rfl, rfl⟩))
  go_wp2
  go_region_held3 (fun w' => w'.cell? ⟨b, 0, none⟩ = some (.string hk) ∧ w'.cell? ⟨b, 1, none⟩ = some (.int .i64 he.seg) ∧ w'.cell? ⟨b, 2, none⟩ = some (.int .i64 he.at_) ∧ w'.cell? ⟨b, 3, none⟩ = some (.int .i64 he.size) ∧ w'.cell? ⟨b, 4, none⟩ = some (.int .i64 he.off) ∧ w'.cell? ⟨b, 5, none⟩ = some (.int .i64 he.time) ∧ w'.cell? ⟨b, 6, none⟩ = some (.bool he.tomb) ∧ w'.cell? ⟨b, 8, none⟩ = some (.pointer p1) ∧ w'.cell? ⟨b, 9, none⟩ = some (.pointer p2) ∧ w'.cell? ⟨w.heap.size, 0, none⟩ = some (.int .i64 en.seg) ∧ w'.cell? ⟨w.heap.size, 1, none⟩ = some (.int .i64 en.at_) ∧ w'.cell? ⟨w.heap.size, 2, none⟩ = some (.int .i64 en.size) ∧ w'.cell? ⟨w.heap.size, 3, none⟩ = some (.int .i64 en.off) ∧ w'.cell? ⟨w.heap.size, 4, none⟩ = some (.int .i64 en.time) ∧ w'.cell? ⟨w.heap.size, 5, none⟩ = some (.bool en.tomb)) (go_keep)
    (first
      | (go_at_call 51; (with_reducible refine (join_any k en l hl _ _ _ ?_ ?_ ?_ ?_).mono ?_); (first | exact (HT.out _ (Aft.refl _).drew.drew).1); (first | exact (HT.out _ (Aft.refl _).drew.drew).2.2.1); (have := HC.out; omega); (have := HC.out; omega); rintro e w1 ⟨t1, q1, rfl, f1, g1, b1⟩; have a1 : Aft (w.alloc (.cells en.cells.toArray 38)) w1 := (by (first | exact Aft.next (Aft.refl _).drew.drew b1)); have F1 := Lib.hid (And.intro f1 (And.intro g1 b1)); obtain ⟨_, _, _, _, ⟨z0, z1, z2, z3, z4, z5, z6, z8, z9⟩, ⟨y0, y1, y2, y3, y4, y5⟩, _⟩ := HT.out _ a1; clear f1 g1 b1)
      | (go_at_call 51; (with_reducible refine (join_any hk he t1 hr _ _ _ ?_ ?_ ?_ ?_).mono ?_); (first | exact F1.out.2.1); (first | exact (HT.out _ a1).2.2.2.1); (have := HC.out; have := cnt_of F1.out.1; unfold Tn.cnt at *; omega); (have := HC.out; have := cnt_of F1.out.1; unfold Tn.cnt at *; omega); rintro e w2 ⟨t2, q2, rfl, f2, g2, b2⟩; have a2 : Aft (w.alloc (.cells en.cells.toArray 38)) w2 := (by (first | exact Aft.next a1 b2)); have F2 := Lib.hid (And.intro f2 (And.intro g2 b2)); obtain ⟨_, _, _, _, ⟨z0, z1, z2, z3, z4, z5, z6, z8, z9⟩, ⟨y0, y1, y2, y3, y4, y5⟩, _⟩ := HT.out _ a2; clear f2 g2 b2))
  all_goals
    go_wp2
    go_ret
    exact ⟨t2, q2, rfl, by rw [F2.out.1, F1.out.1]; simp, F2.out.2.1, (HT.out _ a2).2.2.2.2.2.2⟩

set_option maxRecDepth 100000 in
set_option maxHeartbeats 8000000 in
/-- The left tree is too heavy: a single turn. -/
theorem even_l1 (k : ByteArray) (en : En) (r : Tn) (q : Option Addr) (hk : ByteArray) (he : En) (hl hr : Tn) (b : Nat) (p1 p2 : Option Addr) (w : World) (ho : Tr w w.heap.size r q) (hbw : b < w.heap.size) (h1 : Tr w w.heap.size hl p1) (h2 : Tr w w.heap.size hr p2)
    (hx : Box w b 79 (nodeC hk he (hl.cnt + hr.cnt + 1) p1 p2)) (hc : r.cnt + (hl.cnt + hr.cnt + 1) ≤ 900000000000000) (hh : 3 * (r.cnt + 1) < hl.cnt + hr.cnt + 1 + 1) (hi : ¬ 2 * (hl.cnt + 1) ≤ hr.cnt + 1) :
    Calls Try.prog 52 #[.string k, en.v, .pointer (some ⟨b, 0, none⟩), .pointer q] w (MT ((hl.flat ++ (hk, he) :: hr.flat) ++ (k, en) :: r.flat) w) := by
  have hb0 : Below w.heap.size w (w.alloc (.cells en.cells.toArray 38)) := (Below.refl _ _).alloc (Nat.le_refl _) _
  have hE := Box.new w 38 en.cells.toArray
  have hR : Tr w w.heap.size (.node hk he hl hr) (some ⟨b, 0, none⟩) := ⟨b, p1, p2, rfl, hbw, by rw [Tn.cnt_node]; exact hx, h1, h2⟩
  have hT : ∀ W, Aft (w.alloc (.cells en.cells.toArray 38)) W → Tr W W.heap.size r q ∧ Tr W W.heap.size (.node hk he hl hr) (some ⟨b, 0, none⟩) ∧ Tr W W.heap.size hl p1 ∧ Tr W W.heap.size hr p2 ∧ NC W b hk he p1 p2 ∧ EC W w.heap.size en ∧ Below w.heap.size w W := fun W hW => by
    have hbW : Below w.heap.size w W := hb0.trans (Below.mono hW (by simp))
    exact ⟨ho.below hbW, hR.below hbW, h1.below hbW, h2.below hbW, NC.of (hx.below hbW hbw), EC.of (hE.below hW (by simp)), hbW⟩
  obtain ⟨_, _, _, _, hN, hEC, _⟩ := hT _ (Aft.refl _)
  have HT := Lib.hid hT
  have HC := Lib.hid (Tn.cnt_node hk he hl hr)
  clear hb0 hE hR hT ho h1 h2 hx
  obtain ⟨n0, n1, n2, n3, n4, n5, n6, n8, n9⟩ := hN
  obtain ⟨e0, e1, e2, e3, e4, e5⟩ := hEC
  unfold En.cells at *
  unfold En.v
  go_enter Try.func52, Try.ntmps52
  go_wp2
  go_quiet ((go_at_call 57; exact quiet_same1 (heavy_f (t := r) (u := .node hk he hl hr) (HT.out _ (Aft.refl _).drewN).1 (HT.out _ (Aft.refl _).drewN).2.1 (by omega) (by have := HC.out; omega) (by have := HC.out; omega))))
  go_wp2_with (first
    | (go_at_call 57; (with_reducible refine (heavy_f (t := r) (u := .node hk he hl hr) ?_ ?_ ?_ ?_ ?_).mono ?_); (exact (HT.out _ (Aft.refl _).drewN).1); (exact (HT.out _ (Aft.refl _).drewN).2.1); (have := HC.out; omega); (have := HC.out; omega); (have := HC.out; omega); rintro e w' ⟨rfl, rfl⟩))
  go_region_held3 (fun w' => w'.cell? ⟨b, 8, none⟩ = some (.pointer p1) ∧ w'.cell? ⟨b, 9, none⟩ = some (.pointer p2)) (go_keep)
    (first
      | (go_at_call 57; (with_reducible refine (heavy_t (t := .node hk he hl hr) (u := r) ?_ ?_ ?_ ?_ ?_).mono ?_); (exact (HT.out _ (Aft.refl _).drewN.drew).2.1); (exact (HT.out _ (Aft.refl _).drewN.drew).1); (have := HC.out; omega); (have := HC.out; omega); (have := HC.out; omega); rintro e w' ⟨rfl, rfl⟩)
      | (go_at_call 58; (with_reducible refine (inner_f (t := hr) (u := hl) ?_ ?_ ?_ ?_ ?_).mono ?_); (exact (HT.out _ (Aft.refl _).drewN.drew).2.2.2.1); (exact (HT.out _ (Aft.refl _).drewN.drew).2.2.1); (have := HC.out; omega); (have := HC.out; omega); (have := HC.out; omega); rintro e w' ⟨rfl, rfl⟩))
  go_wp2
  go_region_held3 (fun w' => w'.cell? ⟨b, 0, none⟩ = some (.string hk) ∧ w'.cell? ⟨b, 1, none⟩ = some (.int .i64 he.seg) ∧ w'.cell? ⟨b, 2, none⟩ = some (.int .i64 he.at_) ∧ w'.cell? ⟨b, 3, none⟩ = some (.int .i64 he.size) ∧ w'.cell? ⟨b, 4, none⟩ = some (.int .i64 he.off) ∧ w'.cell? ⟨b, 5, none⟩ = some (.int .i64 he.time) ∧ w'.cell? ⟨b, 6, none⟩ = some (.bool he.tomb) ∧ w'.cell? ⟨b, 8, none⟩ = some (.pointer p1) ∧ w'.cell? ⟨b, 9, none⟩ = some (.pointer p2) ∧ w'.cell? ⟨w.heap.size, 0, none⟩ = some (.int .i64 en.seg) ∧ w'.cell? ⟨w.heap.size, 1, none⟩ = some (.int .i64 en.at_) ∧ w'.cell? ⟨w.heap.size, 2, none⟩ = some (.int .i64 en.size) ∧ w'.cell? ⟨w.heap.size, 3, none⟩ = some (.int .i64 en.off) ∧ w'.cell? ⟨w.heap.size, 4, none⟩ = some (.int .i64 en.time) ∧ w'.cell? ⟨w.heap.size, 5, none⟩ = some (.bool en.tomb)) (go_keep)
    (first
      | (go_at_call 51; (with_reducible refine (join_any k en hr r _ _ _ ?_ ?_ ?_ ?_).mono ?_); (first | exact (HT.out _ (Aft.refl _).drewN.drew.drew).2.2.2.1); (first | exact (HT.out _ (Aft.refl _).drewN.drew.drew).1); (have := HC.out; omega); (have := HC.out; omega); rintro e w1 ⟨t1, q1, rfl, f1, g1, b1⟩; have a1 : Aft (w.alloc (.cells en.cells.toArray 38)) w1 := (by (first | exact Aft.next (Aft.refl _).drewN.drew.drew b1)); have F1 := Lib.hid (And.intro f1 (And.intro g1 b1)); obtain ⟨_, _, _, _, ⟨z0, z1, z2, z3, z4, z5, z6, z8, z9⟩, ⟨y0, y1, y2, y3, y4, y5⟩, _⟩ := HT.out _ a1; clear f1 g1 b1)
      | (go_at_call 51; (with_reducible refine (join_any hk he hl t1 _ _ _ ?_ ?_ ?_ ?_).mono ?_); (first | exact (HT.out _ a1).2.2.1); (first | exact F1.out.2.1); (have := HC.out; have := cnt_of F1.out.1; unfold Tn.cnt at *; omega); (have := HC.out; have := cnt_of F1.out.1; unfold Tn.cnt at *; omega); rintro e w2 ⟨t2, q2, rfl, f2, g2, b2⟩; have a2 : Aft (w.alloc (.cells en.cells.toArray 38)) w2 := (by (first | exact Aft.next a1 b2)); have F2 := Lib.hid (And.intro f2 (And.intro g2 b2)); obtain ⟨_, _, _, _, ⟨z0, z1, z2, z3, z4, z5, z6, z8, z9⟩, ⟨y0, y1, y2, y3, y4, y5⟩, _⟩ := HT.out _ a2; clear f2 g2 b2))
  all_goals
    go_wp2
    go_ret
    exact ⟨t2, q2, rfl, by rw [F2.out.1, F1.out.1]; simp, F2.out.2.1, (HT.out _ a2).2.2.2.2.2.2⟩

set_option maxRecDepth 100000 in
set_option maxHeartbeats 8000000 in
/-- The right tree is too heavy, its left one within: a double turn. -/
theorem even_r2 (k : ByteArray) (en : En) (l : Tn) (p : Option Addr) (hk : ByteArray) (he : En) (hr : Tn) (b : Nat) (p2 : Option Addr) (mk : ByteArray) (me : En) (ml mr : Tn) (mb : Nat) (w : World) (ho : Tr w w.heap.size l p) (hbw : b < w.heap.size) (h1 : Tr w w.heap.size (Tn.node mk me ml mr) (some ⟨mb, 0, none⟩)) (h2 : Tr w w.heap.size hr p2)
    (hx : Box w b 79 (nodeC hk he ((Tn.node mk me ml mr).cnt + hr.cnt + 1) (some ⟨mb, 0, none⟩) p2)) (hc : l.cnt + ((Tn.node mk me ml mr).cnt + hr.cnt + 1) ≤ 900000000000000) (hh : 3 * (l.cnt + 1) < (Tn.node mk me ml mr).cnt + hr.cnt + 1 + 1) (hi : 2 * (hr.cnt + 1) ≤ (Tn.node mk me ml mr).cnt + 1) :
    Calls Try.prog 52 #[.string k, en.v, .pointer p, .pointer (some ⟨b, 0, none⟩)] w (MT (l.flat ++ (k, en) :: ((Tn.node mk me ml mr).flat ++ (hk, he) :: hr.flat)) w) := by
  have hb0 : Below w.heap.size w (w.alloc (.cells en.cells.toArray 38)) := (Below.refl _ _).alloc (Nat.le_refl _) _
  have hE := Box.new w 38 en.cells.toArray
  have hR : Tr w w.heap.size (.node hk he (Tn.node mk me ml mr) hr) (some ⟨b, 0, none⟩) := ⟨b, (some ⟨mb, 0, none⟩), p2, rfl, hbw, by rw [Tn.cnt_node]; exact hx, h1, h2⟩
  obtain ⟨mb', m1', m2', hmp, hmb, hm1, hm2, hmx⟩ := h1.cells
  cases hmp
  have hT : ∀ W, Aft (w.alloc (.cells en.cells.toArray 38)) W → Tr W W.heap.size l p ∧ Tr W W.heap.size (.node hk he (Tn.node mk me ml mr) hr) (some ⟨b, 0, none⟩) ∧ Tr W W.heap.size (Tn.node mk me ml mr) (some ⟨mb, 0, none⟩) ∧ Tr W W.heap.size hr p2 ∧ NC W b hk he (some ⟨mb, 0, none⟩) p2 ∧ EC W w.heap.size en ∧ Below w.heap.size w W ∧ Tr W W.heap.size ml m1' ∧ Tr W W.heap.size mr m2' ∧ NC W mb mk me m1' m2' := fun W hW => by
    have hbW : Below w.heap.size w W := hb0.trans (Below.mono hW (by simp))
    exact ⟨ho.below hbW, hR.below hbW, h1.below hbW, h2.below hbW, NC.of (hx.below hbW hbw), EC.of (hE.below hW (by simp)), hbW, hm1.below hbW, hm2.below hbW, NC.of (hmx.below hbW hmb)⟩
  obtain ⟨_, _, _, _, hN, hEC, _, _, _, hM⟩ := hT _ (Aft.refl _)
  have HT := Lib.hid hT
  have HC := Lib.hid (Tn.cnt_node hk he (Tn.node mk me ml mr) hr)
  have HM := Lib.hid (Tn.cnt_node mk me ml mr)
  clear hb0 hE hR hT ho h1 h2 hx hm1 hm2 hmx
  obtain ⟨n0, n1, n2, n3, n4, n5, n6, n8, n9⟩ := hN
  obtain ⟨e0, e1, e2, e3, e4, e5⟩ := hEC
  obtain ⟨o0, o1, o2, o3, o4, o5, o6, o8, o9⟩ := hM
  unfold En.cells at *
  unfold En.v
  go_enter Try.func52, Try.ntmps52
  go_wp2
  go_region_held3 (fun w' => w'.cell? ⟨b, 8, none⟩ = some (.pointer (some ⟨mb, 0, none⟩)) ∧ w'.cell? ⟨b, 9, none⟩ = some (.pointer p2)) (go_keep)
    (first
      | (go_at_call 57; (with_reducible refine (heavy_t (t := .node hk he (Tn.node mk me ml mr) hr) (u := l) ?_ ?_ ?_ ?_ ?_).mono ?_); (exact (HT.out _ (Aft.refl _).drew).2.1); (exact (HT.out _ (Aft.refl _).drew).1); (have := HC.out; have := HM.out; omega); (have := HC.out; have := HM.out; omega); (have := HC.out; have := HM.out; omega); rintro e w' ⟨rfl, rfl⟩)
      | (go_at_call 58; (with_reducible refine (inner_t (t := (Tn.node mk me ml mr)) (u := hr) ?_ ?_ ?_ ?_ ?_).mono ?_); (exact (HT.out _ (Aft.refl _).drew).2.2.1); (exact (HT.out _ (Aft.refl _).drew).2.2.2.1); (have := HC.out; have := HM.out; omega); (have := HC.out; have := HM.out; omega); (have := HC.out; have := HM.out; omega); rintro e w' ⟨rfl, rfl⟩))
  go_wp2_with (first
    | (go_at_call 57; (with_reducible refine (heavy_t (t := .node hk he (Tn.node mk me ml mr) hr) (u := l) ?_ ?_ ?_ ?_ ?_).mono ?_); (exact (HT.out _ (Aft.refl _).drew).2.1); (exact (HT.out _ (Aft.refl _).drew).1); (have := HC.out; have := HM.out; omega); (have := HC.out; have := HM.out; omega); (have := HC.out; have := HM.out; omega); rintro e w' ⟨rfl, rfl⟩))
  go_region_held3 (fun w' => w'.cell? ⟨b, 0, none⟩ = some (.string hk) ∧ w'.cell? ⟨b, 1, none⟩ = some (.int .i64 he.seg) ∧ w'.cell? ⟨b, 2, none⟩ = some (.int .i64 he.at_) ∧ w'.cell? ⟨b, 3, none⟩ = some (.int .i64 he.size) ∧ w'.cell? ⟨b, 4, none⟩ = some (.int .i64 he.off) ∧ w'.cell? ⟨b, 5, none⟩ = some (.int .i64 he.time) ∧ w'.cell? ⟨b, 6, none⟩ = some (.bool he.tomb) ∧ w'.cell? ⟨b, 8, none⟩ = some (.pointer (some ⟨mb, 0, none⟩)) ∧ w'.cell? ⟨b, 9, none⟩ = some (.pointer p2) ∧ w'.cell? ⟨w.heap.size, 0, none⟩ = some (.int .i64 en.seg) ∧ w'.cell? ⟨w.heap.size, 1, none⟩ = some (.int .i64 en.at_) ∧ w'.cell? ⟨w.heap.size, 2, none⟩ = some (.int .i64 en.size) ∧ w'.cell? ⟨w.heap.size, 3, none⟩ = some (.int .i64 en.off) ∧ w'.cell? ⟨w.heap.size, 4, none⟩ = some (.int .i64 en.time) ∧ w'.cell? ⟨w.heap.size, 5, none⟩ = some (.bool en.tomb) ∧ w'.cell? ⟨mb, 0, none⟩ = some (.string mk) ∧ w'.cell? ⟨mb, 1, none⟩ = some (.int .i64 me.seg) ∧ w'.cell? ⟨mb, 2, none⟩ = some (.int .i64 me.at_) ∧ w'.cell? ⟨mb, 3, none⟩ = some (.int .i64 me.size) ∧ w'.cell? ⟨mb, 4, none⟩ = some (.int .i64 me.off) ∧ w'.cell? ⟨mb, 5, none⟩ = some (.int .i64 me.time) ∧ w'.cell? ⟨mb, 6, none⟩ = some (.bool me.tomb) ∧ w'.cell? ⟨mb, 8, none⟩ = some (.pointer m1') ∧ w'.cell? ⟨mb, 9, none⟩ = some (.pointer m2')) (go_keep)
    (first
      | (go_at_call 51; (with_reducible refine (join_any k en l ml _ _ _ ?_ ?_ ?_ ?_).mono ?_); (first | exact (HT.out _ (Aft.refl _).drew.drew).1 | exact (HT.out _ a2).1); (first | exact (HT.out _ (Aft.refl _).drew.drew).2.2.2.2.2.2.2.1 | exact (HT.out _ a2).2.2.2.2.2.2.2.1); (have := HC.out; have := HM.out; omega); (have := HC.out; have := HM.out; omega); rintro e w1 ⟨t1, q1, rfl, f1, g1, b1⟩; have a1 : Aft (w.alloc (.cells en.cells.toArray 38)) w1 := (by (first | exact Aft.next (Aft.refl _).drew.drew b1 | exact Aft.next a2 b1)); have F1 := Lib.hid (And.intro f1 (And.intro g1 b1)); obtain ⟨_, _, _, _, ⟨z0, z1, z2, z3, z4, z5, z6, z8, z9⟩, ⟨y0, y1, y2, y3, y4, y5⟩, _, _, _, ⟨x0, x1, x2, x3, x4, x5, x6, x8, x9⟩⟩ := HT.out _ a1; clear f1 g1 b1)
      | (go_at_call 51; (with_reducible refine (join_any hk he mr hr _ _ _ ?_ ?_ ?_ ?_).mono ?_); (first | exact (HT.out _ (Aft.refl _).drew.drew).2.2.2.2.2.2.2.2.1 | exact (HT.out _ a1).2.2.2.2.2.2.2.2.1); (first | exact (HT.out _ (Aft.refl _).drew.drew).2.2.2.1 | exact (HT.out _ a1).2.2.2.1); (have := HC.out; have := HM.out; omega); (have := HC.out; have := HM.out; omega); rintro e w2 ⟨t2, q2, rfl, f2, g2, b2⟩; have a2 : Aft (w.alloc (.cells en.cells.toArray 38)) w2 := (by (first | exact Aft.next (Aft.refl _).drew.drew b2 | exact Aft.next a1 b2)); have F2 := Lib.hid (And.intro f2 (And.intro g2 b2)); obtain ⟨_, _, _, _, ⟨z0, z1, z2, z3, z4, z5, z6, z8, z9⟩, ⟨y0, y1, y2, y3, y4, y5⟩, _, _, _, ⟨x0, x1, x2, x3, x4, x5, x6, x8, x9⟩⟩ := HT.out _ a2; clear f2 g2 b2)
      | (go_at_call 51; (with_reducible refine (join_any mk me t1 t2 _ _ _ ?_ ?_ ?_ ?_).mono ?_); (first | exact F1.out.2.1 | exact F1.out.2.1.below F2.out.2.2); (first | exact F2.out.2.1 | exact F2.out.2.1.below F1.out.2.2); (have := HC.out; have := HM.out; have := cnt_of F1.out.1; have := cnt_of F2.out.1; unfold Tn.cnt at *; omega); (have := HC.out; have := HM.out; have := cnt_of F1.out.1; have := cnt_of F2.out.1; unfold Tn.cnt at *; omega); rintro e w3 ⟨t3, q3, rfl, f3, g3, b3⟩; have a3 : Aft (w.alloc (.cells en.cells.toArray 38)) w3 := (by (first | exact Aft.next a2 b3 | exact Aft.next a1 b3)); have F3 := Lib.hid (And.intro f3 (And.intro g3 b3)); obtain ⟨_, _, _, _, ⟨z0, z1, z2, z3, z4, z5, z6, z8, z9⟩, ⟨y0, y1, y2, y3, y4, y5⟩, _, _, _, ⟨x0, x1, x2, x3, x4, x5, x6, x8, x9⟩⟩ := HT.out _ a3; clear f3 g3 b3))
  all_goals
    go_wp2
    go_ret
    exact ⟨t3, q3, rfl, by rw [F3.out.1, F1.out.1, F2.out.1]; simp [Tn.flat], F3.out.2.1, (HT.out _ a3).2.2.2.2.2.2.1⟩

set_option maxRecDepth 100000 in
set_option maxHeartbeats 8000000 in
/-- The left tree is too heavy, its right one within: a double turn. -/
theorem even_l2 (k : ByteArray) (en : En) (r : Tn) (q : Option Addr) (hk : ByteArray) (he : En) (hl : Tn) (b : Nat) (p1 : Option Addr) (mk : ByteArray) (me : En) (ml mr : Tn) (mb : Nat) (w : World) (ho : Tr w w.heap.size r q) (hbw : b < w.heap.size) (h1 : Tr w w.heap.size hl p1) (h2 : Tr w w.heap.size (Tn.node mk me ml mr) (some ⟨mb, 0, none⟩))
    (hx : Box w b 79 (nodeC hk he (hl.cnt + (Tn.node mk me ml mr).cnt + 1) p1 (some ⟨mb, 0, none⟩))) (hc : r.cnt + (hl.cnt + (Tn.node mk me ml mr).cnt + 1) ≤ 900000000000000) (hh : 3 * (r.cnt + 1) < hl.cnt + (Tn.node mk me ml mr).cnt + 1 + 1) (hi : 2 * (hl.cnt + 1) ≤ (Tn.node mk me ml mr).cnt + 1) :
    Calls Try.prog 52 #[.string k, en.v, .pointer (some ⟨b, 0, none⟩), .pointer q] w (MT ((hl.flat ++ (hk, he) :: (Tn.node mk me ml mr).flat) ++ (k, en) :: r.flat) w) := by
  have hb0 : Below w.heap.size w (w.alloc (.cells en.cells.toArray 38)) := (Below.refl _ _).alloc (Nat.le_refl _) _
  have hE := Box.new w 38 en.cells.toArray
  have hR : Tr w w.heap.size (.node hk he hl (Tn.node mk me ml mr)) (some ⟨b, 0, none⟩) := ⟨b, p1, (some ⟨mb, 0, none⟩), rfl, hbw, by rw [Tn.cnt_node]; exact hx, h1, h2⟩
  obtain ⟨mb', m1', m2', hmp, hmb, hm1, hm2, hmx⟩ := h2.cells
  cases hmp
  have hT : ∀ W, Aft (w.alloc (.cells en.cells.toArray 38)) W → Tr W W.heap.size r q ∧ Tr W W.heap.size (.node hk he hl (Tn.node mk me ml mr)) (some ⟨b, 0, none⟩) ∧ Tr W W.heap.size hl p1 ∧ Tr W W.heap.size (Tn.node mk me ml mr) (some ⟨mb, 0, none⟩) ∧ NC W b hk he p1 (some ⟨mb, 0, none⟩) ∧ EC W w.heap.size en ∧ Below w.heap.size w W ∧ Tr W W.heap.size ml m1' ∧ Tr W W.heap.size mr m2' ∧ NC W mb mk me m1' m2' := fun W hW => by
    have hbW : Below w.heap.size w W := hb0.trans (Below.mono hW (by simp))
    exact ⟨ho.below hbW, hR.below hbW, h1.below hbW, h2.below hbW, NC.of (hx.below hbW hbw), EC.of (hE.below hW (by simp)), hbW, hm1.below hbW, hm2.below hbW, NC.of (hmx.below hbW hmb)⟩
  obtain ⟨_, _, _, _, hN, hEC, _, _, _, hM⟩ := hT _ (Aft.refl _)
  have HT := Lib.hid hT
  have HC := Lib.hid (Tn.cnt_node hk he hl (Tn.node mk me ml mr))
  have HM := Lib.hid (Tn.cnt_node mk me ml mr)
  clear hb0 hE hR hT ho h1 h2 hx hm1 hm2 hmx
  obtain ⟨n0, n1, n2, n3, n4, n5, n6, n8, n9⟩ := hN
  obtain ⟨e0, e1, e2, e3, e4, e5⟩ := hEC
  obtain ⟨o0, o1, o2, o3, o4, o5, o6, o8, o9⟩ := hM
  unfold En.cells at *
  unfold En.v
  go_enter Try.func52, Try.ntmps52
  go_wp2
  go_quiet ((go_at_call 57; exact quiet_same1 (heavy_f (t := r) (u := .node hk he hl (Tn.node mk me ml mr)) (HT.out _ (Aft.refl _).drewN).1 (HT.out _ (Aft.refl _).drewN).2.1 (by omega) (by have := HC.out; have := HM.out; omega) (by have := HC.out; have := HM.out; omega))))
  go_wp2_with (first
    | (go_at_call 57; (with_reducible refine (heavy_f (t := r) (u := .node hk he hl (Tn.node mk me ml mr)) ?_ ?_ ?_ ?_ ?_).mono ?_); (exact (HT.out _ (Aft.refl _).drewN).1); (exact (HT.out _ (Aft.refl _).drewN).2.1); (have := HC.out; have := HM.out; omega); (have := HC.out; have := HM.out; omega); (have := HC.out; have := HM.out; omega); rintro e w' ⟨rfl, rfl⟩))
  go_region_held3 (fun w' => w'.cell? ⟨b, 8, none⟩ = some (.pointer p1) ∧ w'.cell? ⟨b, 9, none⟩ = some (.pointer (some ⟨mb, 0, none⟩))) (go_keep)
    (first
      | (go_at_call 57; (with_reducible refine (heavy_t (t := .node hk he hl (Tn.node mk me ml mr)) (u := r) ?_ ?_ ?_ ?_ ?_).mono ?_); (exact (HT.out _ (Aft.refl _).drewN.drew).2.1); (exact (HT.out _ (Aft.refl _).drewN.drew).1); (have := HC.out; have := HM.out; omega); (have := HC.out; have := HM.out; omega); (have := HC.out; have := HM.out; omega); rintro e w' ⟨rfl, rfl⟩)
      | (go_at_call 58; (with_reducible refine (inner_t (t := (Tn.node mk me ml mr)) (u := hl) ?_ ?_ ?_ ?_ ?_).mono ?_); (exact (HT.out _ (Aft.refl _).drewN.drew).2.2.2.1); (exact (HT.out _ (Aft.refl _).drewN.drew).2.2.1); (have := HC.out; have := HM.out; omega); (have := HC.out; have := HM.out; omega); (have := HC.out; have := HM.out; omega); rintro e w' ⟨rfl, rfl⟩))
  go_wp2_with (first
    | (go_at_call 57; (with_reducible refine (heavy_t (t := .node hk he hl (Tn.node mk me ml mr)) (u := r) ?_ ?_ ?_ ?_ ?_).mono ?_); (exact (HT.out _ (Aft.refl _).drewN.drew).2.1); (exact (HT.out _ (Aft.refl _).drewN.drew).1); (have := HC.out; have := HM.out; omega); (have := HC.out; have := HM.out; omega); (have := HC.out; have := HM.out; omega); rintro e w' ⟨rfl, rfl⟩))
  go_region_held3 (fun w' => w'.cell? ⟨b, 0, none⟩ = some (.string hk) ∧ w'.cell? ⟨b, 1, none⟩ = some (.int .i64 he.seg) ∧ w'.cell? ⟨b, 2, none⟩ = some (.int .i64 he.at_) ∧ w'.cell? ⟨b, 3, none⟩ = some (.int .i64 he.size) ∧ w'.cell? ⟨b, 4, none⟩ = some (.int .i64 he.off) ∧ w'.cell? ⟨b, 5, none⟩ = some (.int .i64 he.time) ∧ w'.cell? ⟨b, 6, none⟩ = some (.bool he.tomb) ∧ w'.cell? ⟨b, 8, none⟩ = some (.pointer p1) ∧ w'.cell? ⟨b, 9, none⟩ = some (.pointer (some ⟨mb, 0, none⟩)) ∧ w'.cell? ⟨w.heap.size, 0, none⟩ = some (.int .i64 en.seg) ∧ w'.cell? ⟨w.heap.size, 1, none⟩ = some (.int .i64 en.at_) ∧ w'.cell? ⟨w.heap.size, 2, none⟩ = some (.int .i64 en.size) ∧ w'.cell? ⟨w.heap.size, 3, none⟩ = some (.int .i64 en.off) ∧ w'.cell? ⟨w.heap.size, 4, none⟩ = some (.int .i64 en.time) ∧ w'.cell? ⟨w.heap.size, 5, none⟩ = some (.bool en.tomb) ∧ w'.cell? ⟨mb, 0, none⟩ = some (.string mk) ∧ w'.cell? ⟨mb, 1, none⟩ = some (.int .i64 me.seg) ∧ w'.cell? ⟨mb, 2, none⟩ = some (.int .i64 me.at_) ∧ w'.cell? ⟨mb, 3, none⟩ = some (.int .i64 me.size) ∧ w'.cell? ⟨mb, 4, none⟩ = some (.int .i64 me.off) ∧ w'.cell? ⟨mb, 5, none⟩ = some (.int .i64 me.time) ∧ w'.cell? ⟨mb, 6, none⟩ = some (.bool me.tomb) ∧ w'.cell? ⟨mb, 8, none⟩ = some (.pointer m1') ∧ w'.cell? ⟨mb, 9, none⟩ = some (.pointer m2')) (go_keep)
    (first
      | (go_at_call 51; (with_reducible refine (join_any hk he hl ml _ _ _ ?_ ?_ ?_ ?_).mono ?_); (first | exact (HT.out _ (Aft.refl _).drewN.drew.drew).2.2.1 | exact (HT.out _ a2).2.2.1); (first | exact (HT.out _ (Aft.refl _).drewN.drew.drew).2.2.2.2.2.2.2.1 | exact (HT.out _ a2).2.2.2.2.2.2.2.1); (have := HC.out; have := HM.out; omega); (have := HC.out; have := HM.out; omega); rintro e w1 ⟨t1, q1, rfl, f1, g1, b1⟩; have a1 : Aft (w.alloc (.cells en.cells.toArray 38)) w1 := (by (first | exact Aft.next (Aft.refl _).drewN.drew.drew b1 | exact Aft.next a2 b1)); have F1 := Lib.hid (And.intro f1 (And.intro g1 b1)); obtain ⟨_, _, _, _, ⟨z0, z1, z2, z3, z4, z5, z6, z8, z9⟩, ⟨y0, y1, y2, y3, y4, y5⟩, _, _, _, ⟨x0, x1, x2, x3, x4, x5, x6, x8, x9⟩⟩ := HT.out _ a1; clear f1 g1 b1)
      | (go_at_call 51; (with_reducible refine (join_any k en mr r _ _ _ ?_ ?_ ?_ ?_).mono ?_); (first | exact (HT.out _ (Aft.refl _).drewN.drew.drew).2.2.2.2.2.2.2.2.1 | exact (HT.out _ a1).2.2.2.2.2.2.2.2.1); (first | exact (HT.out _ (Aft.refl _).drewN.drew.drew).1 | exact (HT.out _ a1).1); (have := HC.out; have := HM.out; omega); (have := HC.out; have := HM.out; omega); rintro e w2 ⟨t2, q2, rfl, f2, g2, b2⟩; have a2 : Aft (w.alloc (.cells en.cells.toArray 38)) w2 := (by (first | exact Aft.next (Aft.refl _).drewN.drew.drew b2 | exact Aft.next a1 b2)); have F2 := Lib.hid (And.intro f2 (And.intro g2 b2)); obtain ⟨_, _, _, _, ⟨z0, z1, z2, z3, z4, z5, z6, z8, z9⟩, ⟨y0, y1, y2, y3, y4, y5⟩, _, _, _, ⟨x0, x1, x2, x3, x4, x5, x6, x8, x9⟩⟩ := HT.out _ a2; clear f2 g2 b2)
      | (go_at_call 51; (with_reducible refine (join_any mk me t1 t2 _ _ _ ?_ ?_ ?_ ?_).mono ?_); (first | exact F1.out.2.1 | exact F1.out.2.1.below F2.out.2.2); (first | exact F2.out.2.1 | exact F2.out.2.1.below F1.out.2.2); (have := HC.out; have := HM.out; have := cnt_of F1.out.1; have := cnt_of F2.out.1; unfold Tn.cnt at *; omega); (have := HC.out; have := HM.out; have := cnt_of F1.out.1; have := cnt_of F2.out.1; unfold Tn.cnt at *; omega); rintro e w3 ⟨t3, q3, rfl, f3, g3, b3⟩; have a3 : Aft (w.alloc (.cells en.cells.toArray 38)) w3 := (by (first | exact Aft.next a2 b3 | exact Aft.next a1 b3)); have F3 := Lib.hid (And.intro f3 (And.intro g3 b3)); obtain ⟨_, _, _, _, ⟨z0, z1, z2, z3, z4, z5, z6, z8, z9⟩, ⟨y0, y1, y2, y3, y4, y5⟩, _, _, _, ⟨x0, x1, x2, x3, x4, x5, x6, x8, x9⟩⟩ := HT.out _ a3; clear f3 g3 b3))
  all_goals
    go_wp2
    go_ret
    exact ⟨t3, q3, rfl, by rw [F3.out.1, F1.out.1, F2.out.1]; simp [Tn.flat], F3.out.2.1, (HT.out _ a3).2.2.2.2.2.2.1⟩
end Go.Proofs.Ytglmhpmjebjcgaa
namespace Go.Proofs.Ytglmhpmjebjcgaa
open Go.RowKit Go.Maps

set_option maxRecDepth 100000 in
set_option maxHeartbeats 4000000 in
/-- Neither tree is too heavy. -/
theorem even_c (k : ByteArray) (en : En) (l r : Tn) (p q : Option Addr) (w : World) (hl : Tr w w.heap.size l p) (hr : Tr w w.heap.size r q) (hc : l.cnt + r.cnt ≤ 900000000000000)
    (hh : ¬ 3 * (l.cnt + 1) < r.cnt + 1) (hg : ¬ 3 * (r.cnt + 1) < l.cnt + 1) :
    Calls Try.prog 52 #[.string k, en.v, .pointer p, .pointer q] w (MT (l.flat ++ (k, en) :: r.flat) w) := by
  have hb0 : Below w.heap.size w (w.alloc (.cells en.cells.toArray 38)) := (Below.refl _ _).alloc (Nat.le_refl _) _
  have hE := Box.new w 38 en.cells.toArray
  have hT : ∀ W, Aft (w.alloc (.cells en.cells.toArray 38)) W → Tr W W.heap.size l p ∧ Tr W W.heap.size r q ∧ EC W w.heap.size en ∧ Below w.heap.size w W := fun W hW => by
    have hbW : Below w.heap.size w W := hb0.trans (Below.mono hW (by simp))
    exact ⟨hl.below hbW, hr.below hbW, EC.of (hE.below hW (by simp)), hbW⟩
  have HT := Lib.hid hT
  clear hb0 hE hT hl hr
  unfold En.cells at *
  go_enter Try.func52, Try.ntmps52
  go_wp2
  go_quiet ((go_at_call 57; exact quiet_same1 (heavy_f (t := r) (u := l) (HT.out _ (Aft.refl _).drewN).2.1 (HT.out _ (Aft.refl _).drewN).1 (by omega) (by omega) hh)))
  generalize hW1 : World.drewN _ _ = W1
  have hA1 : Aft (w.alloc (.cells #[.int .i64 en.seg, .int .i64 en.at_, .int .i64 en.size, .int .i64 en.off, .int .i64 en.time, .bool en.tomb] 38)) W1 := by rw [← hW1]; exact (Aft.refl _).drewN
  clear hW1
  go_wp2_with (go_at_call 57; (with_reducible refine (heavy_f (t := r) (u := l) ?_ ?_ ?_ ?_ ?_).mono ?_); (exact (HT.out _ hA1).2.1); (exact (HT.out _ hA1).1); omega; omega; omega; rintro e w' ⟨rfl, rfl⟩)
  go_quiet ((go_at_call 57; exact quiet_same1 (heavy_f (t := l) (u := r) (HT.out _ hA1.drewN).1 (HT.out _ hA1.drewN).2.1 (by omega) (by omega) hg)))
  generalize hW2 : World.drewN _ _ = W2
  have hA2 : Aft (w.alloc (.cells #[.int .i64 en.seg, .int .i64 en.at_, .int .i64 en.size, .int .i64 en.off, .int .i64 en.time, .bool en.tomb] 38)) W2 := by rw [← hW2]; exact hA1.drewN
  obtain ⟨_, _, ⟨e0, e1, e2, e3, e4, e5⟩, _⟩ := HT.out _ hA2
  clear hW2
  go_wp2_with (first
    | (go_at_call 57; (with_reducible refine (heavy_f (t := l) (u := r) ?_ ?_ ?_ ?_ ?_).mono ?_); (exact (HT.out _ hA2).1); (exact (HT.out _ hA2).2.1); omega; omega; omega; rintro e w' ⟨rfl, rfl⟩)
    | (go_at_call 51; (with_reducible refine (join_any k en l r _ _ _ ?_ ?_ ?_ ?_).mono ?_); (exact (HT.out _ hA2).1); (exact (HT.out _ hA2).2.1); omega; omega; rintro e w3 ⟨t1, q1, rfl, f1, g1, b1⟩; have F1 := Lib.hid (And.intro f1 (And.intro g1 (Aft.next hA2 b1))); clear f1 g1 b1))
  go_ret
  exact ⟨t1, q1, rfl, F1.out.1, F1.out.2.1, (HT.out _ F1.out.2.2).2.2.2⟩
/-- even, whatever the trees weigh. -/
theorem even_any (k : ByteArray) (en : En) (l r : Tn) (p q : Option Addr) (w : World) (hl : Tr w w.heap.size l p) (hr : Tr w w.heap.size r q) (hc : l.cnt + r.cnt ≤ 900000000000000) :
    Calls Try.prog 52 #[.string k, en.v, .pointer p, .pointer q] w (MT (l.flat ++ (k, en) :: r.flat) w) := by
  by_cases hh : 3 * (l.cnt + 1) < r.cnt + 1
  · cases r with
    | leaf => simp [Tn.cnt, Tn.flat] at hh
    | node rk re rl rr =>
      obtain ⟨b, p1, p2, rfl, hb, h1, h2, hx⟩ := hr.cells
      have hcn := Tn.cnt_node rk re rl rr
      by_cases hi : 2 * (rr.cnt + 1) ≤ rl.cnt + 1
      · cases rl with
        | leaf => exact absurd hi (by simp [Tn.cnt, Tn.flat]; omega)
        | node mk me ml mr =>
          have h1' := h1
          obtain ⟨mb, m1, m2, rfl, _⟩ := h1'
          exact even_r2 k en l p rk re rr b p2 mk me ml mr mb w hl hb h1 h2 hx (by omega) (by omega) hi
      · exact even_r1 k en l p rk re rl rr b p1 p2 w hl hb h1 h2 hx (by omega) (by omega) hi
  · by_cases hg : 3 * (r.cnt + 1) < l.cnt + 1
    · cases l with
      | leaf => simp [Tn.cnt, Tn.flat] at hg
      | node lk le ll lr =>
        obtain ⟨b, p1, p2, rfl, hb, h1, h2, hx⟩ := hl.cells
        have hcn := Tn.cnt_node lk le ll lr
        by_cases hi : 2 * (ll.cnt + 1) ≤ lr.cnt + 1
        · cases lr with
          | leaf => exact absurd hi (by simp [Tn.cnt, Tn.flat]; omega)
          | node mk me ml mr =>
            have h2' := h2
            obtain ⟨mb, m1, m2, rfl, _⟩ := h2'
            exact even_l2 k en r q lk le ll b p1 mk me ml mr mb w hr hb h1 h2 hx (by omega) (by omega) hi
        · exact even_l1 k en r q lk le ll lr b p1 p2 w hr hb h1 h2 hx (by omega) (by omega) hi
    · exact even_c k en l r p q w hl hr hc hh hg
end Go.Proofs.Ytglmhpmjebjcgaa
namespace Go.Proofs.Ytglmhpmjebjcgaa
open Go.RowKit Go.Maps

theorem sz64 {n : Nat} (h : n ≤ 64) : n ≤ maxLen := by unfold maxLen; omega
theorem cmp_is {s t : ByteArray} {w : World} {c : Int} (hs : s.size ≤ maxLen) (ht : t.size ≤ maxLen) (h : kc s t = c) :
    Calls Try.prog 46 #[.string s, .string t] w fun e w' => e = .returned (.int .i64 c) ∧ ∃ n, w' = w.drewN n := by
  subst h
  exact compare_any s t w hs ht
theorem KeysOk.parts {k : ByteArray} {e : En} {l r : List KE} (h : KeysOk (l ++ (k, e) :: r)) : KeysOk l ∧ KeysOk r ∧ 1 ≤ k.size ∧ k.size ≤ 64 :=
  ⟨fun x hx => h x (by simp [hx]), fun x hx => h x (by simp [hx]), h (k, e) (by simp)⟩
theorem get_less {k k0 : ByteArray} {e0 : En} {l r : List KE} (h : Sorted (l ++ (k0, e0) :: r)) (hk : kc k k0 = -1) : getL k (l ++ (k0, e0) :: r) = getL k l := by
  obtain ⟨h1, h2, h3, h4, _⟩ := h.parts
  cases hg : getL k l with
  | some e => exact (get_mem h).2 (by have := (get_mem h1).1 hg; simp [this])
  | none =>
    rw [get_none] at hg ⊢
    intro x hx
    simp only [List.mem_append, List.mem_cons] at hx
    rcases hx with hx | rfl | hx
    · exact hg x hx
    · exact fun e => by subst e; rw [kc_self] at hk; cases hk
    · intro e; subst e; have := kc_trans hk (h4 x hx); rw [kc_self] at this; cases this
theorem get_more {k k0 : ByteArray} {e0 : En} {l r : List KE} (h : Sorted (l ++ (k0, e0) :: r)) (hk : kc k k0 = 1) : getL k (l ++ (k0, e0) :: r) = getL k r := by
  obtain ⟨h1, h2, h3, h4, _⟩ := h.parts
  have hs := kc_swap k k0
  cases hg : getL k r with
  | some e => exact (get_mem h).2 (by have := (get_mem h2).1 hg; simp [this])
  | none =>
    rw [get_none] at hg ⊢
    intro x hx
    simp only [List.mem_append, List.mem_cons] at hx
    rcases hx with hx | rfl | hx
    · intro e; subst e; have := kc_trans (h3 x hx) (show kc k0 x.1 = -1 by omega); rw [kc_self] at this; cases this
    · exact fun e => by subst e; rw [kc_self] at hk; cases hk
    · exact hg x hx
theorem get_same {k : ByteArray} {e0 : En} {l r : List KE} (h : Sorted (l ++ (k, e0) :: r)) : getL k (l ++ (k, e0) :: r) = some e0 := (get_mem h).2 (by simp)

/-- What find answers. -/
def FD (xs : List KE) (key : ByteArray) (w : World) (e : Ending) : Prop :=
  (getL key xs = none ∧ e = .returned (.pointer none)) ∨
  (∃ (en : En) (b : Nat) (p1 p2 : Option Addr), getL key xs = some en ∧ e = .returned (.pointer (some ⟨b, 0, none⟩)) ∧ b < w.heap.size ∧ NC w b key en p1 p2)
/-- How many hang on a pointer, read off the memory. -/
def szOf (w : World) (v : Value) : Nat :=
  match v with
  | .pointer (some a) => match w.cell? ⟨a.block, 7, none⟩ with
    | some (.int _ n) => n.toNat
    | _ => 0
  | _ => 0
theorem szOf_tr {w : World} {B : Nat} {t : Tn} {p : Option Addr} (h : Tr w B t p) : szOf w (.pointer p) = t.cnt := by
  cases t with
  | leaf => obtain rfl : p = none := h; rfl
  | node k e l r =>
    obtain ⟨b, p1, p2, rfl, _, h3, _⟩ := h
    have h7 := h3.cell 7
    have e7 : (nodeC k e (Tn.node k e l r).cnt p1 p2)[7]? = some (.int .i64 ((Tn.node k e l r).cnt : Int)) := rfl
    rw [e7] at h7
    unfold szOf
    simp only [h7, Int.toNat_natCast]
theorem Tr.dr {w : World} {B n : Nat} {t : Tn} {p : Option Addr} (h : Tr w B t p) : Tr (w.drewN n) B t p := Tr.keep (w := w) (w' := w.drewN n) (fun _ _ => rfl) (Nat.le_refl _) h
theorem szOf_dr (w : World) (n : Nat) (v : Value) : szOf (w.drewN n) v = szOf w v := rfl

set_option maxRecDepth 100000 in
set_option maxHeartbeats 4000000 in
theorem find_any (t : Tn) (p : Option Addr) (key : ByteArray) (w : World) (h : Tr w w.heap.size t p) (hs : Sorted t.flat) (hk : KeysOk t.flat) (hz : key.size ≤ maxLen) :
    Calls Try.prog 43 #[.pointer p, .string key] w fun e w' => FD t.flat key w e ∧ ∃ n, w' = w.drewN n := by
  have H := Lib.hid (And.intro h (And.intro hs hk))
  clear h hs hk
  go_enter Try.func43, Try.ntmps43
  go_wp2
  go_loopw [0] (fun v wr => ∃ (u : Tn) (q : Option Addr) (n : Nat), v = .pointer q ∧ wr = w.drewN n ∧ Tr w w.heap.size u q ∧ Sorted u.flat ∧ KeysOk u.flat ∧ getL key t.flat = getL key u.flat)
    (fun v wr => szOf wr v)
  case atStart => exact ⟨t, p, 0, rfl, rfl, H.out.1, H.out.2.1, H.out.2.2, rfl⟩
  case round =>
    obtain ⟨u, q, n, rfl, rfl, hT, hS, hK, hG⟩ := hrel
    cases u with
    | leaf =>
      obtain rfl : q = none := hT
      have HG := Lib.hid hG
      clear hG hS hK
      go_wp2
      go_ret
      exact ⟨.inl ⟨HG.out, rfl⟩, n, rfl⟩
    | node k0 e0 l r =>
      have Hsz := Lib.hid (szOf_tr (hT.dr (n := n)))
      obtain ⟨b, p1, p2, rfl, hb, h1, h2, hx⟩ := hT.cells
      have hN := NC.of hx
      have hS2 : Sorted (l.flat ++ (k0, e0) :: r.flat) := hS
      have hK2 : KeysOk (l.flat ++ (k0, e0) :: r.flat) := hK
      obtain ⟨s1, s2, _⟩ := hS2.parts
      obtain ⟨o1, o2, o3, o4⟩ := hK2.parts
      have HH := Lib.hid (And.intro h1 (And.intro h2 (And.intro s1 (And.intro s2 (And.intro o1 (And.intro o2 (And.intro hS2 (And.intro hG hN))))))))
      obtain ⟨n0, n1, n2, n3, n4, n5, n6, n8, n9⟩ := hN
      have hcn := Tn.cnt_node k0 e0 l r
      have HCN := Lib.hid hcn
      have o4' := Lib.hid o4
      clear hT hx hS hK hG hS2 hK2 h1 h2 s1 s2 o1 o2 hcn o3 o4
      rcases kc_range key k0 with hc | hc | hc
      · go_wp2_with (first
          | (go_at_call 46; (with_reducible refine (cmp_is hz (sz64 o4'.out) hc).mono ?_); rintro e w' ⟨rfl, nq, rfl⟩))
        go_roundw
        case rel => exact ⟨l, p1, _, rfl, by first | rfl | exact World.drewN_drewN .., HH.out.1, HH.out.2.2.1, HH.out.2.2.2.2.1, by rw [HH.out.2.2.2.2.2.2.2.1]; exact get_less HH.out.2.2.2.2.2.2.1 hc⟩
        case measure =>
          have e1 := Hsz.out
          have e2 := HCN.out
          have e3 := szOf_tr (HH.out.1.dr (n := n + nq))
          simp only [szOf_dr] at *
          omega
      · obtain rfl := kc_eq hc
        go_wp2_with (first
          | (go_at_call 46; (with_reducible refine (cmp_is hz (sz64 o4'.out) hc).mono ?_); rintro e w' ⟨rfl, nq, rfl⟩))
        go_ret
        exact ⟨.inr ⟨e0, b, p1, p2, by rw [HH.out.2.2.2.2.2.2.2.1]; exact get_same HH.out.2.2.2.2.2.2.1, rfl, hb, HH.out.2.2.2.2.2.2.2.2⟩, _, by first | rfl | exact World.drewN_drewN ..⟩
      · go_wp2_with (first
          | (go_at_call 46; (with_reducible refine (cmp_is hz (sz64 o4'.out) hc).mono ?_); rintro e w' ⟨rfl, nq, rfl⟩))
        go_roundw
        case rel => exact ⟨r, p2, _, rfl, by first | rfl | exact World.drewN_drewN .., HH.out.2.1, HH.out.2.2.2.1, HH.out.2.2.2.2.2.1, by rw [HH.out.2.2.2.2.2.2.2.1]; exact get_more HH.out.2.2.2.2.2.2.1 hc⟩
        case measure =>
          have e1 := Hsz.out
          have e2 := HCN.out
          have e3 := szOf_tr (HH.out.2.1.dr (n := n + nq))
          simp only [szOf_dr] at *
          omega
end Go.Proofs.Ytglmhpmjebjcgaa
namespace Go.Proofs.Ytglmhpmjebjcgaa
open Go.RowKit Go.Maps

set_option maxRecDepth 100000 in
set_option maxHeartbeats 8000000 in
theorem with_any (key : ByteArray) (en : En) (hz : 1 ≤ key.size ∧ key.size ≤ 64) : ∀ (t : Tn) (p : Option Addr) (w : World), Tr w w.heap.size t p → Sorted t.flat → KeysOk t.flat → t.cnt ≤ 800000000000000 →
    Calls Try.prog 41 #[.pointer p, .string key, en.v] w (MT (putL key en t.flat) w) := by
  intro t
  induction t with
  | leaf =>
    intro p w h _ _ _
    obtain rfl : p = none := h
    have hb0 : Below w.heap.size w (w.alloc (.cells en.cells.toArray 38)) := (Below.refl _ _).alloc (Nat.le_refl _) _
    have HB := Lib.hid hb0
    have hE := (Box.new w 38 en.cells.toArray).cell
    clear hb0
    unfold En.cells at *
    go_enter Try.func41, Try.ntmps41
    go_wp2_with (first
      | (go_at_call 51; (with_reducible refine (join_any key en .leaf .leaf none none _ ?_ ?_ ?_ ?_).mono ?_); (exact rfl); (exact rfl); (simp [Tn.cnt, Tn.flat]); (simp [Tn.cnt, Tn.flat]); rintro e w1 ⟨t1, q1, rfl, f1, g1, b1⟩; have F1 := Lib.hid (And.intro f1 (And.intro g1 (HB.out.trans (b1.mono HB.out.size)))); clear f1 g1 b1))
    go_ret
    exact ⟨t1, q1, rfl, by rw [F1.out.1]; rfl, F1.out.2.1, F1.out.2.2⟩
  | node k0 e0 l r ihl ihr =>
    intro p w h hs hk hc
    obtain ⟨b, p1, p2, rfl, hb, h1, h2, hx⟩ := h.cells
    have hb0 : Below w.heap.size w (w.alloc (.cells en.cells.toArray 38)) := (Below.refl _ _).alloc (Nat.le_refl _) _
    have hE := Box.new w 38 en.cells.toArray
    have hT : ∀ W, Aft (w.alloc (.cells en.cells.toArray 38)) W → Tr W W.heap.size l p1 ∧ Tr W W.heap.size r p2 ∧ NC W b k0 e0 p1 p2 ∧ EC W w.heap.size en ∧ Below w.heap.size w W := fun W hW => by
      have hbW : Below w.heap.size w W := hb0.trans (Below.mono hW (by simp))
      exact ⟨h1.below hbW, h2.below hbW, NC.of (hx.below hbW hb), EC.of (hE.below hW (by simp)), hbW⟩
    have hS2 : Sorted (l.flat ++ (k0, e0) :: r.flat) := hs
    have hK2 : KeysOk (l.flat ++ (k0, e0) :: r.flat) := hk
    obtain ⟨s1, s2, _⟩ := hS2.parts
    obtain ⟨o1, o2, o3, o4⟩ := hK2.parts
    have HO := Lib.hid (And.intro (And.intro s1 o1) (And.intro (And.intro s2 o2) (And.intro hS2 o4)))
    have HCN := Lib.hid (Tn.cnt_node k0 e0 l r)
    obtain ⟨_, _, ⟨n0, n1, n2, n3, n4, n5, n6, n8, n9⟩, _⟩ := hT _ (Aft.refl _)
    have HT := Lib.hid hT
    clear h hs hk h1 h2 hx hb0 hE hT hS2 hK2 s1 s2 o1 o2 o3 o4
    change _ ≤ _ at hc
    unfold En.cells at *
    have hcnt := hc
    clear hc
    go_enter Try.func41, Try.ntmps41
    rcases kc_range key k0 with hc | hc | hc
    · go_wp2_with (first
        | (go_at_call 46; (with_reducible refine (cmp_is (sz64 hz.2) (sz64 HO.out.2.2.2) hc).mono ?_); rintro e w' ⟨rfl, nq, rfl⟩))
      generalize hW1 : World.drewN _ _ = W1
      have hA1 : Aft (w.alloc (.cells #[.int .i64 en.seg, .int .i64 en.at_, .int .i64 en.size, .int .i64 en.off, .int .i64 en.time, .bool en.tomb] 38)) W1 := by rw [← hW1]; exact (Aft.refl _).drewN
      obtain ⟨_, _, ⟨n0, n1, n2, n3, n4, n5, n6, n8, n9⟩, ⟨e0', e1', e2', e3', e4', e5'⟩, _⟩ := HT.out _ hA1
      clear hW1
      go_region_held3 (fun w' => w'.cell? ⟨b, 0, none⟩ = some (.string k0) ∧ w'.cell? ⟨b, 1, none⟩ = some (.int .i64 e0.seg) ∧ w'.cell? ⟨b, 2, none⟩ = some (.int .i64 e0.at_) ∧ w'.cell? ⟨b, 3, none⟩ = some (.int .i64 e0.size) ∧ w'.cell? ⟨b, 4, none⟩ = some (.int .i64 e0.off) ∧ w'.cell? ⟨b, 5, none⟩ = some (.int .i64 e0.time) ∧ w'.cell? ⟨b, 6, none⟩ = some (.bool e0.tomb) ∧ w'.cell? ⟨b, 8, none⟩ = some (.pointer p1) ∧ w'.cell? ⟨b, 9, none⟩ = some (.pointer p2) ∧ w'.cell? ⟨w.heap.size, 0, none⟩ = some (.int .i64 en.seg) ∧ w'.cell? ⟨w.heap.size, 1, none⟩ = some (.int .i64 en.at_) ∧ w'.cell? ⟨w.heap.size, 2, none⟩ = some (.int .i64 en.size) ∧ w'.cell? ⟨w.heap.size, 3, none⟩ = some (.int .i64 en.off) ∧ w'.cell? ⟨w.heap.size, 4, none⟩ = some (.int .i64 en.time) ∧ w'.cell? ⟨w.heap.size, 5, none⟩ = some (.bool en.tomb)) (go_keep)
        (first
          | (go_at_call 41; (with_reducible refine (ihl p1 _ ?_ ?_ ?_ ?_).mono ?_); (exact (HT.out _ hA1.drew).1); (exact HO.out.1.1); (exact HO.out.1.2); (have := HCN.out; omega); rintro e w1 ⟨t1, q1, rfl, f1, g1, b1⟩; have a1 : Aft _ w1 := Aft.next hA1.drew b1; have F1 := Lib.hid (And.intro f1 (And.intro g1 b1)); obtain ⟨_, _, ⟨z0, z1, z2, z3, z4, z5, z6, z8, z9⟩, ⟨y0, y1, y2, y3, y4, y5⟩, _⟩ := HT.out _  a1; clear f1 g1 b1)
          | (go_at_call 52; (with_reducible refine (even_any k0 e0 t1 r _ _ _ ?_ ?_ ?_).mono ?_); (exact F1.out.2.1); (exact (HT.out _ a1).2.1); (have := HCN.out; have := put_len key en l.flat; have := F1.out.1; unfold Tn.cnt at *; rw [this]; omega); rintro e w2 ⟨t2, q2, rfl, f2, g2, b2⟩; have a2 : Aft _ w2 := Aft.next a1 b2; have F2 := Lib.hid (And.intro f2 (And.intro g2 b2)); obtain ⟨_, _, ⟨z0, z1, z2, z3, z4, z5, z6, z8, z9⟩, ⟨y0, y1, y2, y3, y4, y5⟩, _⟩ := HT.out _  a2; clear f2 g2 b2))
      all_goals
        go_wp2
        go_ret
        exact ⟨t2, q2, rfl, by rw [F2.out.1, F1.out.1]; exact (put_less HO.out.2.2.1 hc).symm, F2.out.2.1, (HT.out _ a2).2.2.2.2⟩
    · obtain rfl := kc_eq hc
      go_wp2_with (first
        | (go_at_call 46; (with_reducible refine (cmp_is (sz64 hz.2) (sz64 HO.out.2.2.2) hc).mono ?_); rintro e w' ⟨rfl, nq, rfl⟩))
      generalize hW1 : World.drewN _ _ = W1
      have hA1 : Aft (w.alloc (.cells #[.int .i64 en.seg, .int .i64 en.at_, .int .i64 en.size, .int .i64 en.off, .int .i64 en.time, .bool en.tomb] 38)) W1 := by rw [← hW1]; exact (Aft.refl _).drewN
      obtain ⟨_, _, ⟨n0, n1, n2, n3, n4, n5, n6, n8, n9⟩, ⟨e0', e1', e2', e3', e4', e5'⟩, _⟩ := HT.out _ hA1
      clear hW1
      go_region_held3 (fun w' => w'.cell? ⟨b, 8, none⟩ = some (.pointer p1) ∧ w'.cell? ⟨b, 9, none⟩ = some (.pointer p2) ∧ w'.cell? ⟨w.heap.size, 0, none⟩ = some (.int .i64 en.seg) ∧ w'.cell? ⟨w.heap.size, 1, none⟩ = some (.int .i64 en.at_) ∧ w'.cell? ⟨w.heap.size, 2, none⟩ = some (.int .i64 en.size) ∧ w'.cell? ⟨w.heap.size, 3, none⟩ = some (.int .i64 en.off) ∧ w'.cell? ⟨w.heap.size, 4, none⟩ = some (.int .i64 en.time) ∧ w'.cell? ⟨w.heap.size, 5, none⟩ = some (.bool en.tomb)) (go_keep)
        (first
          | (go_at_call 51; (with_reducible refine (join_any key en l r _ _ _ ?_ ?_ ?_ ?_).mono ?_); (exact (HT.out _ hA1.drew).1); (exact (HT.out _ hA1.drew).2.1); (have := HCN.out; omega); (have := HCN.out; omega); rintro e w1 ⟨t1, q1, rfl, f1, g1, b1⟩; have a1 : Aft _ w1 := Aft.next hA1.drew b1; have F1 := Lib.hid (And.intro f1 (And.intro g1 b1)); obtain ⟨_, _, ⟨z0, z1, z2, z3, z4, z5, z6, z8, z9⟩, ⟨y0, y1, y2, y3, y4, y5⟩, _⟩ := HT.out _  a1; clear f1 g1 b1))
      all_goals
        go_wp2
        go_ret
        exact ⟨t1, q1, rfl, by rw [F1.out.1]; exact (put_same HO.out.2.2.1).symm, F1.out.2.1, (HT.out _ a1).2.2.2.2⟩
    · go_wp2_with (first
        | (go_at_call 46; (with_reducible refine (cmp_is (sz64 hz.2) (sz64 HO.out.2.2.2) hc).mono ?_); rintro e w' ⟨rfl, nq, rfl⟩))
      generalize hW1 : World.drewN _ _ = W1
      have hA1 : Aft (w.alloc (.cells #[.int .i64 en.seg, .int .i64 en.at_, .int .i64 en.size, .int .i64 en.off, .int .i64 en.time, .bool en.tomb] 38)) W1 := by rw [← hW1]; exact (Aft.refl _).drewN
      obtain ⟨_, _, ⟨n0, n1, n2, n3, n4, n5, n6, n8, n9⟩, ⟨e0', e1', e2', e3', e4', e5'⟩, _⟩ := HT.out _ hA1
      clear hW1
      go_region_held3 (fun w' => w'.cell? ⟨b, 0, none⟩ = some (.string k0) ∧ w'.cell? ⟨b, 1, none⟩ = some (.int .i64 e0.seg) ∧ w'.cell? ⟨b, 2, none⟩ = some (.int .i64 e0.at_) ∧ w'.cell? ⟨b, 3, none⟩ = some (.int .i64 e0.size) ∧ w'.cell? ⟨b, 4, none⟩ = some (.int .i64 e0.off) ∧ w'.cell? ⟨b, 5, none⟩ = some (.int .i64 e0.time) ∧ w'.cell? ⟨b, 6, none⟩ = some (.bool e0.tomb) ∧ w'.cell? ⟨b, 8, none⟩ = some (.pointer p1) ∧ w'.cell? ⟨b, 9, none⟩ = some (.pointer p2) ∧ w'.cell? ⟨w.heap.size, 0, none⟩ = some (.int .i64 en.seg) ∧ w'.cell? ⟨w.heap.size, 1, none⟩ = some (.int .i64 en.at_) ∧ w'.cell? ⟨w.heap.size, 2, none⟩ = some (.int .i64 en.size) ∧ w'.cell? ⟨w.heap.size, 3, none⟩ = some (.int .i64 en.off) ∧ w'.cell? ⟨w.heap.size, 4, none⟩ = some (.int .i64 en.time) ∧ w'.cell? ⟨w.heap.size, 5, none⟩ = some (.bool en.tomb)) (go_keep)
        (first
          | (go_at_call 41; (with_reducible refine (ihr p2 _ ?_ ?_ ?_ ?_).mono ?_); (exact (HT.out _ hA1.drew).2.1); (exact HO.out.2.1.1); (exact HO.out.2.1.2); (have := HCN.out; omega); rintro e w1 ⟨t1, q1, rfl, f1, g1, b1⟩; have a1 : Aft _ w1 := Aft.next hA1.drew b1; have F1 := Lib.hid (And.intro f1 (And.intro g1 b1)); obtain ⟨_, _, ⟨z0, z1, z2, z3, z4, z5, z6, z8, z9⟩, ⟨y0, y1, y2, y3, y4, y5⟩, _⟩ := HT.out _  a1; clear f1 g1 b1)
          | (go_at_call 52; (with_reducible refine (even_any k0 e0 l t1 _ _ _ ?_ ?_ ?_).mono ?_); (exact (HT.out _ a1).1); (exact F1.out.2.1); (have := HCN.out; have := put_len key en r.flat; have := F1.out.1; unfold Tn.cnt at *; rw [this]; omega); rintro e w2 ⟨t2, q2, rfl, f2, g2, b2⟩; have a2 : Aft _ w2 := Aft.next a1 b2; have F2 := Lib.hid (And.intro f2 (And.intro g2 b2)); obtain ⟨_, _, ⟨z0, z1, z2, z3, z4, z5, z6, z8, z9⟩, ⟨y0, y1, y2, y3, y4, y5⟩, _⟩ := HT.out _  a2; clear f2 g2 b2))
      all_goals
        go_wp2
        go_ret
        exact ⟨t2, q2, rfl, by rw [F2.out.1, F1.out.1]; exact (put_more HO.out.2.2.1 hc).symm, F2.out.2.1, (HT.out _ a2).2.2.2.2⟩
end Go.Proofs.Ytglmhpmjebjcgaa
namespace Go.Proofs.Ytglmhpmjebjcgaa
open Go.RowKit Go.Maps

set_option maxRecDepth 100000 in
set_option maxHeartbeats 8000000 in
theorem without_any : ∀ (t : Tn) (p : Option Addr) (key : ByteArray) (w : World), Tr w w.heap.size t p → Sorted t.flat → KeysOk t.flat → key.size ≤ 64 → getL key t.flat ≠ none → t.cnt ≤ 800000000000000 →
    Calls Try.prog 45 #[.pointer p, .string key] w (MT (delL key t.flat) w) := by
  intro t
  induction t with
  | leaf => intro p key w h _ _ _ hg _; exact absurd rfl hg
  | node k0 e0 l r ihl ihr =>
    intro p key w h hs hk hz hgn hcnt
    obtain ⟨b, p1, p2, rfl, hb, h1, h2, hx⟩ := h.cells
    have hT : ∀ W, Aft w W → Tr W W.heap.size l p1 ∧ Tr W W.heap.size r p2 ∧ NC W b k0 e0 p1 p2 ∧ Below w.heap.size w W := fun W hW =>
      ⟨h1.below hW, h2.below hW, NC.of (hx.below hW hb), hW⟩
    have hS2 : Sorted (l.flat ++ (k0, e0) :: r.flat) := hs
    have hK2 : KeysOk (l.flat ++ (k0, e0) :: r.flat) := hk
    obtain ⟨s1, s2, _⟩ := hS2.parts
    obtain ⟨o1, o2, o3, o4⟩ := hK2.parts
    have HO := Lib.hid (And.intro (And.intro s1 o1) (And.intro (And.intro s2 o2) (And.intro hS2 o4)))
    have HCN := Lib.hid (Tn.cnt_node k0 e0 l r)
    have HGN : Hid (getL key (l.flat ++ (k0, e0) :: r.flat) ≠ none) := hgn
    obtain ⟨_, _, ⟨n0, n1, n2, n3, n4, n5, n6, n8, n9⟩, _⟩ := hT _ (Aft.refl _)
    have HT := Lib.hid hT
    clear h hs hk h1 h2 hx hT hS2 hK2 s1 s2 o1 o2 o3 o4 hgn
    go_enter Try.func45, Try.ntmps45
    rcases kc_range key k0 with hc | hc | hc
    · have hg2 : getL key l.flat ≠ none := by rw [← get_less HO.out.2.2.1 hc]; exact HGN.out
      have HG := Lib.hid hg2
      clear hg2
      go_wp2_with (first
        | (go_at_call 46; (with_reducible refine (cmp_is (sz64 hz) (sz64 HO.out.2.2.2) hc).mono ?_); rintro e w' ⟨rfl, nq, rfl⟩))
      generalize hW1 : World.drewN _ _ = W1
      have hA1 : Aft w W1 := by rw [← hW1]; exact (Aft.refl _).drewN
      obtain ⟨_, _, ⟨n0, n1, n2, n3, n4, n5, n6, n8, n9⟩, _⟩ := HT.out _ hA1
      clear hW1
      go_region_held3 (fun w' => w'.cell? ⟨b, 0, none⟩ = some (.string k0) ∧ w'.cell? ⟨b, 1, none⟩ = some (.int .i64 e0.seg) ∧ w'.cell? ⟨b, 2, none⟩ = some (.int .i64 e0.at_) ∧ w'.cell? ⟨b, 3, none⟩ = some (.int .i64 e0.size) ∧ w'.cell? ⟨b, 4, none⟩ = some (.int .i64 e0.off) ∧ w'.cell? ⟨b, 5, none⟩ = some (.int .i64 e0.time) ∧ w'.cell? ⟨b, 6, none⟩ = some (.bool e0.tomb) ∧ w'.cell? ⟨b, 8, none⟩ = some (.pointer p1) ∧ w'.cell? ⟨b, 9, none⟩ = some (.pointer p2)) (go_keep)
        (first
          | (go_at_call 45; (with_reducible refine (ihl p1 key _ ?_ ?_ ?_ ?_ ?_ ?_).mono ?_); (exact (HT.out _ hA1.drew).1); (exact HO.out.1.1); (exact HO.out.1.2); (exact hz); (exact HG.out); (have := HCN.out; omega); rintro e w1 ⟨t1, q1, rfl, f1, g1, b1⟩; have a1 : Aft _ w1 := Aft.next hA1.drew b1; have F1 := Lib.hid (And.intro f1 (And.intro g1 b1)); obtain ⟨_, _, ⟨z0, z1, z2, z3, z4, z5, z6, z8, z9⟩, _⟩ := HT.out _  a1; clear f1 g1 b1)
          | (go_at_call 52; (with_reducible refine (even_any k0 e0 t1 r _ _ _ ?_ ?_ ?_).mono ?_); (exact F1.out.2.1); (exact (HT.out _ a1).2.1); (have := HCN.out; have := del_len key l.flat; have := F1.out.1; unfold Tn.cnt at *; rw [this]; omega); rintro e w2 ⟨t2, q2, rfl, f2, g2, b2⟩; have a2 : Aft _ w2 := Aft.next a1 b2; have F2 := Lib.hid (And.intro f2 (And.intro g2 b2)); obtain ⟨_, _, ⟨z0, z1, z2, z3, z4, z5, z6, z8, z9⟩, _⟩ := HT.out _  a2; clear f2 g2 b2))
      all_goals
        go_wp2
        go_ret
        exact ⟨t2, q2, rfl, by rw [F2.out.1, F1.out.1]; exact (del_less HO.out.2.2.1 hc).symm, F2.out.2.1, (HT.out _ a2).2.2.2⟩
    · obtain rfl := kc_eq hc
      cases l with
      | leaf =>
        have hp1 : p1 = none := (HT.out _ (Aft.refl _)).1
        subst hp1
        go_wp2_with (first
          | (go_at_call 46; (with_reducible refine (cmp_is (sz64 hz) (sz64 HO.out.2.2.2) hc).mono ?_); rintro e w' ⟨rfl, nq, rfl⟩))
        generalize hW1 : World.drewN _ _ = W1
        have hA1 : Aft w W1 := by rw [← hW1]; exact (Aft.refl _).drewN
        obtain ⟨_, _, ⟨n0, n1, n2, n3, n4, n5, n6, n8, n9⟩, _⟩ := HT.out _ hA1
        clear hW1
        go_wp2
        go_ret
        exact ⟨r, p2, rfl, (del_same HO.out.2.2.1).symm, (HT.out _ hA1).2.1, (HT.out _ hA1).2.2.2⟩
      | node lk le ll lr =>
      have hl0 := (HT.out _ (Aft.refl _)).1
      obtain ⟨lb, l1, l2, rfl, _⟩ := hl0
      cases r with
      | leaf =>
        have hp2 : p2 = none := (HT.out _ (Aft.refl _)).2.1
        subst hp2
        go_wp2_with (first
          | (go_at_call 46; (with_reducible refine (cmp_is (sz64 hz) (sz64 HO.out.2.2.2) hc).mono ?_); rintro e w' ⟨rfl, nq, rfl⟩))
        generalize hW1 : World.drewN _ _ = W1
        have hA1 : Aft w W1 := by rw [← hW1]; exact (Aft.refl _).drewN
        obtain ⟨_, _, ⟨n0, n1, n2, n3, n4, n5, n6, n8, n9⟩, _⟩ := HT.out _ hA1
        clear hW1
        go_wp2
        go_ret
        exact ⟨.node lk le ll lr, some ⟨lb, 0, none⟩, rfl, ((del_same HO.out.2.2.1).trans (List.append_nil _)).symm, (HT.out _ hA1).1, (HT.out _ hA1).2.2.2⟩
      | node rk re rl rr =>
      have hr0 := (HT.out _ (Aft.refl _)).2.1
      obtain ⟨rb, r1, r2, rfl, _⟩ := hr0
      go_wp2_with (first
        | (go_at_call 46; (with_reducible refine (cmp_is (sz64 hz) (sz64 HO.out.2.2.2) hc).mono ?_); rintro e w' ⟨rfl, nq, rfl⟩))
      generalize hW1 : World.drewN _ _ = W1
      have hA1 : Aft w W1 := by rw [← hW1]; exact (Aft.refl _).drewN
      obtain ⟨_, _, ⟨n0, n1, n2, n3, n4, n5, n6, n8, n9⟩, _⟩ := HT.out _ hA1
      clear hW1
      go_wp2
      go_loop [6] (fun v => ∃ (mk : ByteArray) (me : En) (ml mr : Tn) (mb : Nat) (m1 m2 : Option Addr) (rest : List KE), v = .pointer (some ⟨mb, 0, none⟩) ∧ Tr W1 W1.heap.size (.node mk me ml mr) (some ⟨mb, 0, none⟩) ∧ mb < W1.heap.size ∧ Tr W1 W1.heap.size ml m1 ∧ Tr W1 W1.heap.size mr m2 ∧ Box W1 mb 79 (nodeC mk me (ml.cnt + mr.cnt + 1) m1 m2) ∧ (Tn.node rk re rl rr).flat = (ml.flat ++ (mk, me) :: mr.flat) ++ rest)
        (fun v => szOf W1 v)
      case atStart =>
        have hr1 := (HT.out _ hA1).2.1
        obtain ⟨b', m1, m2, hp, hb', g1, g2, gx⟩ := hr1.cells
        cases hp
        exact ⟨rk, re, rl, rr, rb, m1, m2, [], rfl, hr1, hb', g1, g2, gx, by simp [Tn.flat]⟩
      case round =>
        obtain ⟨mk, me, ml, mr, mb, m1, m2, rest, rfl, hM, hmb, g1, g2, gx, hfl⟩ := hrel
        obtain ⟨x0, x1, x2, x3, x4, x5, x6, x8, x9⟩ := NC.of gx
        cases ml with
        | node mk' me' ml' mr' =>
          have hg1 := g1
          obtain ⟨b', m1', m2', rfl, hb', g1', g2', gx'⟩ := g1.cells
          have HM := Lib.hid (And.intro (szOf_tr hM) (And.intro (szOf_tr hg1) (And.intro (Tn.cnt_node mk me (.node mk' me' ml' mr') mr) (And.intro hfl (And.intro hg1 (And.intro g1' (And.intro g2' gx')))))))
          clear hM g1 g2 gx hfl hg1 g1' g2' gx'
          go_wp2
          go_round
          case rel =>
            obtain ⟨_, _, _, hfl, hg1, g1', g2', gx'⟩ := HM.out
            exact ⟨mk', me', ml', mr', b', m1', m2', (mk, me) :: mr.flat ++ rest, rfl, hg1, hb', g1', g2', gx', by rw [hfl]; simp [Tn.flat]⟩
          case measure =>
            obtain ⟨h1, h2, h3, _⟩ := HM.out
            omega
        | leaf =>
          obtain rfl : m1 = none := g1
          have hfl2 : (Tn.node rk re rl rr).flat = [] ++ (mk, me) :: (mr.flat ++ rest) := by rw [hfl]; simp [Tn.flat]
          have hs2 : Sorted ([] ++ (mk, me) :: (mr.flat ++ rest)) := by rw [← hfl2]; exact HO.out.2.1.1
          have hk2 : KeysOk ([] ++ (mk, me) :: (mr.flat ++ rest)) := by rw [← hfl2]; exact HO.out.2.1.2
          have hmz := hk2.parts.2.2.2
          have hgm : getL mk (Tn.node rk re rl rr).flat ≠ none := by rw [hfl2, get_same hs2]; simp
          have hd : delL mk (Tn.node rk re rl rr).flat = mr.flat ++ rest := by rw [hfl2, del_same hs2]; rfl
          have hbx : ∀ W, Aft W1 W → NC W mb mk me none m2 := fun W hW => NC.of (gx.below hW hmb)
          have HM := Lib.hid (And.intro hgm (And.intro hd (And.intro hfl2 (And.intro hmz hbx))))
          have HX := Lib.hid hbx
          clear hM g2 gx hfl hfl2 hs2 hk2 hmz hgm hd hbx
          go_wp2
          go_region_held3 (fun w' => w'.cell? ⟨b, 8, none⟩ = some (.pointer (some ⟨lb, 0, none⟩)) ∧ w'.cell? ⟨b, 9, none⟩ = some (.pointer (some ⟨rb, 0, none⟩)) ∧ w'.cell? ⟨mb, 0, none⟩ = some (.string mk) ∧ w'.cell? ⟨mb, 1, none⟩ = some (.int .i64 me.seg) ∧ w'.cell? ⟨mb, 2, none⟩ = some (.int .i64 me.at_) ∧ w'.cell? ⟨mb, 3, none⟩ = some (.int .i64 me.size) ∧ w'.cell? ⟨mb, 4, none⟩ = some (.int .i64 me.off) ∧ w'.cell? ⟨mb, 5, none⟩ = some (.int .i64 me.time) ∧ w'.cell? ⟨mb, 6, none⟩ = some (.bool me.tomb)) (go_keep)
            (first
              | (go_at_call 45; (with_reducible refine (ihr (some ⟨rb, 0, none⟩) mk _ ?_ ?_ ?_ ?_ ?_ ?_).mono ?_); (exact (HT.out _ hA1.drew).2.1); (exact HO.out.2.1.1); (exact HO.out.2.1.2); (exact HM.out.2.2.2.1); (exact HM.out.1); (have := HCN.out; omega); rintro e w1 ⟨t1, q1, rfl, f1, g1, b1⟩; have a1 : Aft _ w1 := Aft.next hA1.drew b1; have F1 := Lib.hid (And.intro f1 (And.intro g1 b1)); obtain ⟨_, _, ⟨z0, z1, z2, z3, z4, z5, z6, z8, z9⟩, _⟩ := HT.out _  a1; obtain ⟨v0, v1, v2, v3, v4, v5, v6, v8, v9⟩ := HX.out _ (Aft.next ((Aft.refl W1).drew) b1); clear f1 g1 b1)
              | (go_at_call 52; (with_reducible refine (even_any mk me (.node lk le ll lr) t1 _ _ _ ?_ ?_ ?_).mono ?_); (exact (HT.out _ a1).1); (exact F1.out.2.1); (have := HCN.out; have := del_len mk (Tn.node rk re rl rr).flat; have := F1.out.1; unfold Tn.cnt at *; rw [this]; omega); rintro e w2 ⟨t2, q2, rfl, f2, g2, b2⟩; have a2 : Aft _ w2 := Aft.next a1 b2; have F2 := Lib.hid (And.intro f2 (And.intro g2 b2)); obtain ⟨_, _, ⟨z0, z1, z2, z3, z4, z5, z6, z8, z9⟩, _⟩ := HT.out _  a2; obtain ⟨v0, v1, v2, v3, v4, v5, v6, v8, v9⟩ := HX.out _ (Aft.next (Aft.next ((Aft.refl W1).drew) F1.out.2.2) b2); clear f2 g2 b2))
          all_goals
            go_wp2
            go_ret
            refine ⟨t2, q2, rfl, ?_, F2.out.2.1, (HT.out _ a2).2.2.2⟩
            rw [F2.out.1, F1.out.1, HM.out.2.1]
            have := del_same HO.out.2.2.1
            refine Eq.trans ?_ this.symm
            rw [HM.out.2.2.1]; rfl
    · have hg2 : getL key r.flat ≠ none := by rw [← get_more HO.out.2.2.1 hc]; exact HGN.out
      have HG := Lib.hid hg2
      clear hg2
      go_wp2_with (first
        | (go_at_call 46; (with_reducible refine (cmp_is (sz64 hz) (sz64 HO.out.2.2.2) hc).mono ?_); rintro e w' ⟨rfl, nq, rfl⟩))
      generalize hW1 : World.drewN _ _ = W1
      have hA1 : Aft w W1 := by rw [← hW1]; exact (Aft.refl _).drewN
      obtain ⟨_, _, ⟨n0, n1, n2, n3, n4, n5, n6, n8, n9⟩, _⟩ := HT.out _ hA1
      clear hW1
      go_region_held3 (fun w' => w'.cell? ⟨b, 0, none⟩ = some (.string k0) ∧ w'.cell? ⟨b, 1, none⟩ = some (.int .i64 e0.seg) ∧ w'.cell? ⟨b, 2, none⟩ = some (.int .i64 e0.at_) ∧ w'.cell? ⟨b, 3, none⟩ = some (.int .i64 e0.size) ∧ w'.cell? ⟨b, 4, none⟩ = some (.int .i64 e0.off) ∧ w'.cell? ⟨b, 5, none⟩ = some (.int .i64 e0.time) ∧ w'.cell? ⟨b, 6, none⟩ = some (.bool e0.tomb) ∧ w'.cell? ⟨b, 8, none⟩ = some (.pointer p1) ∧ w'.cell? ⟨b, 9, none⟩ = some (.pointer p2)) (go_keep)
        (first
          | (go_at_call 45; (with_reducible refine (ihr p2 key _ ?_ ?_ ?_ ?_ ?_ ?_).mono ?_); (exact (HT.out _ hA1.drew).2.1); (exact HO.out.2.1.1); (exact HO.out.2.1.2); (exact hz); (exact HG.out); (have := HCN.out; omega); rintro e w1 ⟨t1, q1, rfl, f1, g1, b1⟩; have a1 : Aft _ w1 := Aft.next hA1.drew b1; have F1 := Lib.hid (And.intro f1 (And.intro g1 b1)); obtain ⟨_, _, ⟨z0, z1, z2, z3, z4, z5, z6, z8, z9⟩, _⟩ := HT.out _  a1; clear f1 g1 b1)
          | (go_at_call 52; (with_reducible refine (even_any k0 e0 l t1 _ _ _ ?_ ?_ ?_).mono ?_); (exact (HT.out _ a1).1); (exact F1.out.2.1); (have := HCN.out; have := del_len key r.flat; have := F1.out.1; unfold Tn.cnt at *; rw [this]; omega); rintro e w2 ⟨t2, q2, rfl, f2, g2, b2⟩; have a2 : Aft _ w2 := Aft.next a1 b2; have F2 := Lib.hid (And.intro f2 (And.intro g2 b2)); obtain ⟨_, _, ⟨z0, z1, z2, z3, z4, z5, z6, z8, z9⟩, _⟩ := HT.out _  a2; clear f2 g2 b2))
      all_goals
        go_wp2
        go_ret
        exact ⟨t2, q2, rfl, by rw [F2.out.1, F1.out.1]; exact (del_more HO.out.2.2.1 hc).symm, F2.out.2.1, (HT.out _ a2).2.2.2⟩
end Go.Proofs.Ytglmhpmjebjcgaa
namespace Go.Proofs.Ytglmhpmjebjcgaa
open Go.RowKit Go.Maps

/-- The nodes that were there are there. -/
structure NK (w w' : World) : Prop where
  size : w.heap.size ≤ w'.heap.size
  node : ∀ (b : Nat) (cs : Array Value), w.heap[b]? = some (.cells cs 79 (0, 0)) → w'.heap[b]? = some (.cells cs 79 (0, 0))
theorem bal (W : World) (o : Obj) : Below W.heap.size W (W.alloc o) := (Below.refl _ _).alloc (Nat.le_refl _) o
theorem NK.refl (w : World) : NK w w := ⟨Nat.le_refl _, fun _ _ h => h⟩
theorem NK.trans {a b c : World} (h : NK a b) (k : NK b c) : NK a c := ⟨Nat.le_trans h.size k.size, fun i _ hi => k.node i _ (h.node i _ hi)⟩
theorem NK.of_below {w w' : World} (h : Below w.heap.size w w') : NK w w' := ⟨h.size, fun b _ hb => (h.block b (Array.getElem?_eq_some_iff.1 hb).1).trans hb⟩
theorem NK.of_chg {S : Nat → Prop} {w w' : World} (h : Chg S w w') (hS : ∀ k, S k → ∀ cs, w.heap[k]? ≠ some (.cells cs 79 (0, 0))) : NK w w' :=
  ⟨h.size, fun b cs hb => (h.block b (Array.getElem?_eq_some_iff.1 hb).1 fun hs => hS b hs cs hb).trans hb⟩
theorem Tr.nk {w w' : World} (h : NK w w') {B B' : Nat} (hB : B ≤ B') : ∀ {t : Tn} {p : Option Addr}, Tr w B t p → Tr w' B' t p
  | .leaf, _, h => h
  | .node _ _ _ _, _, ⟨b, p1, p2, h1, h2, h3, h4, h5⟩ => ⟨b, p1, p2, h1, by omega, h.node b _ h3, Tr.nk h hB h4, Tr.nk h hB h5⟩
theorem box_not {w : World} {d : Nat} {t : TypeId} {ar : Array Value} (h : Box w d t ar) (ht : t ≠ 79) (cs : Array Value) : w.heap[d]? ≠ some (.cells cs 79 (0, 0)) := by
  unfold Box at h
  rw [h]
  intro e
  injection e with e
  injection e with _ e
  exact ht e

/-! A dir: a box with the tree's root. -/
def DR (w : World) (d : Nat) (xs : List KE) : Prop := ∃ (t : Tn) (p : Option Addr), Box w d 28 #[.pointer p] ∧ Tr w w.heap.size t p ∧ t.flat = xs ∧ Sorted xs ∧ KeysOk xs
section
variable {w w' : World} {d : Nat} {xs : List KE}
theorem DR.sorted (h : DR w d xs) : Sorted xs := let ⟨_, _, _, _, _, h, _⟩ := h; h
theorem DR.keys (h : DR w d xs) : KeysOk xs := let ⟨_, _, _, _, _, _, h⟩ := h; h
theorem DR.lt (h : DR w d xs) : d < w.heap.size := let ⟨_, _, h, _⟩ := h; h.lt
theorem DR.next (h : DR w d xs) (hb : Below w.heap.size w w') : DR w' d xs := let ⟨t, p, h1, h2, h3, h4, h5⟩ := h; ⟨t, p, h1.below hb h1.lt, h2.below hb, h3, h4, h5⟩
/-- Of the blocks that were there only d may have changed. -/
abbrev Dch (d : Nat) (w w' : World) : Prop := Chg (fun k => k = d) w w'
end
theorem DR.not {w : World} {d : Nat} {xs : List KE} (h : DR w d xs) (cs : Array Value) : w.heap[d]? ≠ some (.cells cs 79 (0, 0)) := let ⟨_, _, h, _⟩ := h; box_not h (by decide) cs
/-- Another dir's turn leaves this one. -/
theorem DR.chg {S : Nat → Prop} {w w' : World} {d : Nat} {xs : List KE} (h : DR w d xs) (hc : Chg S w w') (hS : ∀ k, S k → ∀ cs, w.heap[k]? ≠ some (.cells cs 79 (0, 0))) (hd : ¬ S d) : DR w' d xs :=
  let ⟨t, p, h1, h2, h3, h4, h5⟩ := h; ⟨t, p, h1.chg hc hd, h2.nk (NK.of_chg hc hS) hc.size, h3, h4, h5⟩
def entV (o : Option En) : Value := match o with
  | some e => .tuple #[e.v, .bool true]
  | none => .tuple #[En.zero.v, .bool false]

theorem entV_eq (o : Option En) : entV o = .tuple #[(o.getD En.zero).v, .bool o.isSome] := by cases o <;> rfl

set_option maxRecDepth 100000 in
theorem top_any (d : Nat) (p : Option Addr) (w : World) (h : Box w d 28 #[.pointer p]) : Calls Try.prog 44 #[.pointer (some ⟨d, 0, none⟩)] w fun e w' => e = .returned (.pointer p) ∧ w = w' := by
  have h0 : w.cell? ⟨d, 0, none⟩ = some (.pointer p) := h.cell 0
  clear h
  go_enter Try.func44, Try.ntmps44
  go_wp2
  go_ret
  exact ⟨rfl, rfl⟩
set_option maxRecDepth 100000 in
theorem top_nil (w : World) : Calls Try.prog 44 #[.pointer none] w fun e w' => e = .returned (.pointer none) ∧ w = w' := by
  go_enter Try.func44, Try.ntmps44
  go_wp2
  go_ret
  exact ⟨rfl, rfl⟩
set_option maxRecDepth 100000 in
theorem refused_ok (d : Nat) (key : ByteArray) (w : World) (h : 1 ≤ key.size ∧ key.size ≤ 64) : Calls Try.prog 40 #[.pointer (some ⟨d, 0, none⟩), .string key] w fun e w' => e = .returned (.int .i64 0) ∧ w = w' := by
  obtain ⟨h1, h2⟩ := h
  go_enter Try.func40, Try.ntmps40
  go_wp2
  go_ret
  exact ⟨rfl, rfl⟩
set_option maxRecDepth 100000 in
theorem refused_key (d : Nat) (key : ByteArray) (w : World) (h : ¬ (1 ≤ key.size ∧ key.size ≤ 64)) (hm : key.size ≤ maxLen) : Calls Try.prog 40 #[.pointer (some ⟨d, 0, none⟩), .string key] w fun e w' => e = .returned (.int .i64 42) ∧ w = w' := by
  unfold maxLen at hm
  rcases (show key.size < 1 ∨ (1 ≤ key.size ∧ 64 < key.size) by omega) with h1 | ⟨h1, h2⟩
  all_goals
    clear h
    go_enter Try.func40, Try.ntmps40
    go_wp2
    go_ret
    exact ⟨rfl, rfl⟩
set_option maxRecDepth 100000 in
theorem refused_nil (key : ByteArray) (w : World) : Calls Try.prog 40 #[.pointer none, .string key] w fun e w' => e = .returned (.int .i64 1) ∧ w = w' := by
  go_enter Try.func40, Try.ntmps40
  go_wp2
  go_ret
  exact ⟨rfl, rfl⟩

/-- find, for a key of any length. -/
theorem getL_long {key : ByteArray} {xs : List KE} (hk : KeysOk xs) (h : ¬ key.size ≤ 64) : getL key xs = none := get_none.2 fun x hx e => by have := hk x hx; rw [e] at this; omega
theorem FD.none_ {xs : List KE} {key : ByteArray} {w : World} {e : Ending} (h : FD xs key w e) (hg : getL key xs = none) : e = .returned (.pointer none) := by
  rcases h with ⟨_, h⟩ | ⟨en, b, p1, p2, h, _⟩
  · exact h
  · rw [hg] at h; cases h
theorem FD.some_ {xs : List KE} {key : ByteArray} {w : World} {e : Ending} {en : En} (h : FD xs key w e) (hg : getL key xs = some en) : ∃ b p1 p2, e = .returned (.pointer (some ⟨b, 0, none⟩)) ∧ b < w.heap.size ∧ NC w b key en p1 p2 := by
  rcases h with ⟨h, _⟩ | ⟨en', b, p1, p2, h, h2, h3, h4⟩
  · rw [hg] at h; cases h
  · rw [hg] at h; cases h; exact ⟨b, p1, p2, h2, h3, h4⟩
set_option maxRecDepth 100000 in
set_option maxHeartbeats 4000000 in
theorem get_any (d : Nat) (key : ByteArray) (xs : List KE) (w : World) (h : DR w d xs) (hz : key.size ≤ maxLen) :
    Calls Try.prog 17 #[.pointer (some ⟨d, 0, none⟩), .string key] w fun e w' => e = .returned (entV (getL key xs)) ∧ Below w.heap.size w w' := by
  obtain ⟨t, p, h1, h2, rfl, h4, h5⟩ := h
  have hb0 : Below w.heap.size w (w.alloc (.cells #[.int .i64 0, .int .i64 0, .int .i64 0, .int .i64 0, .int .i64 0, .bool false] 38)) := (Below.refl _ _).alloc (Nat.le_refl _) _
  have HX := Lib.hid (Box.new w 38 #[.int .i64 0, .int .i64 0, .int .i64 0, .int .i64 0, .int .i64 0, .bool false])
  have HB := Lib.hid hb0
  have H := Lib.hid (And.intro (h1.below hb0 h1.lt) (And.intro (h2.below hb0) (And.intro h4 h5)))
  clear h1 h2 h4 h5 hb0
  cases hg : getL key t.flat with
  | none =>
    have HG := Lib.hid hg
    clear hg
    go_enter Try.func17, Try.ntmps17
    go_wp2_with (first
      | (go_at_call 44; refine (top_any d p _ H.out.1).mono ?_; rintro e w' ⟨rfl, rfl⟩)
      | (go_at_call 43; refine (find_any t p key _ H.out.2.1 H.out.2.2.1 H.out.2.2.2 hz).mono ?_; rintro e w1 ⟨hf, nq, rfl⟩; obtain rfl := hf.none_ HG.out; clear hf; generalize hW1 : World.drewN _ _ = W1; have hb1 : Below w.heap.size w W1 := (by rw [← hW1]; exact below_drewN HB.out _); have hX1 : Box W1 w.heap.size 38 #[.int .i64 0, .int .i64 0, .int .i64 0, .int .i64 0, .int .i64 0, .bool false] := (by rw [← hW1]; exact HX.out); have hxc := hX1.cell; have hxf := hX1.free; have HB1 := Lib.hid hb1; clear hb1 hX1 hW1))
    refine bodyPost_ret (v := .tuple #[En.zero.v, .bool false]) ?_ rfl ?_
    · simp [results, Try.results17, go_sem, hxc, En.zero]
    refine ⟨rfl, ?_⟩
    repeat (first | with_reducible exact HB1.out | refine Below.setCell ?_ (by simp) _)
  | some en =>
    have HG := Lib.hid hg
    clear hg
    go_enter Try.func17, Try.ntmps17
    go_wp2_with (first
      | (go_at_call 44; refine (top_any d p _ H.out.1).mono ?_; rintro e w' ⟨rfl, rfl⟩)
      | (go_at_call 43; refine (find_any t p key _ H.out.2.1 H.out.2.2.1 H.out.2.2.2 hz).mono ?_; rintro e w1 ⟨hf, nq, rfl⟩; obtain ⟨b, p1, p2, rfl, _, hN⟩ := hf.some_ HG.out; clear hf; generalize hW1 : World.drewN _ _ = W1; have hb1 : Below w.heap.size w W1 := (by rw [← hW1]; exact below_drewN HB.out _); have hX1 : Box W1 w.heap.size 38 #[.int .i64 0, .int .i64 0, .int .i64 0, .int .i64 0, .int .i64 0, .bool false] := (by rw [← hW1]; exact HX.out); have hN1 : NC W1 b key en p1 p2 := (by rw [← hW1]; exact hN); obtain ⟨n0, n1, n2, n3, n4, n5, n6, n8, n9⟩ := hN1; have hxc := hX1.cell; have hxf := hX1.free; have HB1 := Lib.hid hb1; clear hb1 hX1 hW1 hN))
    refine bodyPost_ret (v := .tuple #[en.v, .bool true]) ?_ rfl ?_
    · simp [results, Try.results17, go_sem, hxc]
    refine ⟨rfl, ?_⟩
    repeat (first | with_reducible exact HB1.out | refine Below.setCell ?_ (by simp) _)
end Go.Proofs.Ytglmhpmjebjcgaa
namespace Go.Proofs.Ytglmhpmjebjcgaa
open Go.RowKit Go.Maps

def putV (o : Option En) : Value := .tuple #[(o.getD En.zero).v, .bool o.isSome, .int .i64 0]
theorem getD_v (o : Option En) : ∃ a, o.getD En.zero = a := ⟨_, rfl⟩
/-- A new root, and a result's box written: a dir again. -/
theorem DR.upd {w2 W : World} {d r : Nat} {p p2 : Option Addr} {t2 : Tn} {xs : List KE} {ar : Array Value} {ty : TypeId} (hq3 : Box w2 d 28 #[.pointer p]) (g2 : Tr w2 w2.heap.size t2 p2) (hf : t2.flat = xs) (hs : Sorted xs) (hk : KeysOk xs) (hr : Box w2 r ty ar) (hty : ty ≠ 79)
    (hrd : d ≠ r) (hc : Chg (fun k => k = r) (w2.setCell ⟨d, 0, none⟩ (.pointer p2)) W) : DR W d xs := by
  have hc0 : Chg (fun k => k = d) w2 (w2.setCell ⟨d, 0, none⟩ (.pointer p2)) := (Chg.refl (fun k => k = d) w2).setCell (p := ⟨d, 0, none⟩) (.inl rfl) _
  have n1 : NK w2 (w2.setCell ⟨d, 0, none⟩ (.pointer p2)) := NK.of_chg hc0 fun k hk cs => by subst hk; exact box_not hq3 (by decide) cs
  have hr1 := hr.far (p := ⟨d, 0, none⟩) (fun e => hrd e.symm) (.pointer p2)
  have n2 : NK (w2.setCell ⟨d, 0, none⟩ (.pointer p2)) W := NK.of_chg hc fun k hk cs => by subst hk; exact box_not hr1 hty cs
  have hd1 : Box (w2.setCell ⟨d, 0, none⟩ (.pointer p2)) d 28 #[.pointer p2] := by simpa using hq3.set_ 0 (.pointer p2)
  exact ⟨t2, p2, hd1.chg hc hrd, g2.nk (n1.trans n2) (n1.trans n2).size, hf, hs, hk⟩

set_option maxRecDepth 100000 in
set_option maxHeartbeats 8000000 in
theorem put_ok (d : Nat) (key : ByteArray) (en : En) (xs : List KE) (w : World) (h : DR w d xs) (hz : 1 ≤ key.size ∧ key.size ≤ 64) (hc : xs.length ≤ 800000000000000) :
    Calls Try.prog 11 #[.pointer (some ⟨d, 0, none⟩), .string key, en.v] w fun e w' => e = .returned (putV (getL key xs)) ∧ DR w' d (putL key en xs) ∧ Dch d w w' := by
  obtain ⟨t, p, h1, h2, rfl, h4, h5⟩ := h
  have hb0 : Below w.heap.size w ((w.alloc (.cells #[.int .i64 en.seg, .int .i64 en.at_, .int .i64 en.size, .int .i64 en.off, .int .i64 en.time, .bool en.tomb] 38)).alloc (.cells #[.int .i64 0, .int .i64 0, .int .i64 0, .int .i64 0, .int .i64 0, .bool false] 38)) := ((Below.refl _ _).alloc (Nat.le_refl _) _).alloc (by simp) _
  have hX0 := (Box.new w 38 #[.int .i64 en.seg, .int .i64 en.at_, .int .i64 en.size, .int .i64 en.off, .int .i64 en.time, .bool en.tomb]).alloc (.cells #[.int .i64 0, .int .i64 0, .int .i64 0, .int .i64 0, .int .i64 0, .bool false] 38)
  have hX1 := Box.new (w.alloc (.cells #[.int .i64 en.seg, .int .i64 en.at_, .int .i64 en.size, .int .i64 en.off, .int .i64 en.time, .bool en.tomb] 38)) 38 #[.int .i64 0, .int .i64 0, .int .i64 0, .int .i64 0, .int .i64 0, .bool false]
  rw [World.size_alloc] at hX1
  have hdl := h1.lt
  have H := Lib.hid (And.intro hb0 (And.intro hX0 (And.intro hX1 (And.intro (h1.below hb0 hdl) (And.intro (h2.below hb0) (And.intro h4 h5))))))
  unfold putV
  rw [show En.v = En.v from rfl]
  generalize ho : (getL key t.flat).getD En.zero = o
  generalize hbo : (getL key t.flat).isSome = bo
  have HG := Lib.hid (show entV (getL key t.flat) = .tuple #[o.v, .bool bo] by rw [entV_eq, ho, hbo])
  have hcn : t.cnt ≤ 800000000000000 := hc
  clear h1 h2 h4 h5 hb0 hX0 hX1 ho hbo hc
  go_enter Try.func11, Try.ntmps11
  go_wp2_with (first
    | (go_at_call 40
       refine (refused_ok d key _ hz).mono ?_
       rintro e w' ⟨rfl, rfl⟩)
    | (go_at_call 17
       refine (get_any d key t.flat _ ⟨t, p, H.out.2.2.2.1, H.out.2.2.2.2.1, rfl, H.out.2.2.2.2.2.1, H.out.2.2.2.2.2.2⟩ (sz64 hz.2)).mono ?_
       rintro e w1 ⟨rfl, hb1⟩
       rw [HG.out]
       have hq1 := H.out.2.1.below hb1 H.out.2.1.lt
       have hq2 := H.out.2.2.1.below hb1 H.out.2.2.1.lt
       have hq3 := H.out.2.2.2.1.below hb1 H.out.2.2.2.1.lt
       have hc1 := hq1.cell
       have hc2 := hq2.cell
       have hf2 := hq2.free
       have hl2 := hq2.lt
       have hl1 := hq1.lt
       have hc3 := hq3.cell
       have hf3 := hq3.free
       have hl3 := hq3.lt
       have H1 := Lib.hid (And.intro (H.out.1.trans (hb1.mono H.out.1.size)) (And.intro hq2 (And.intro hq3 (H.out.2.2.2.2.1.below hb1))))
       clear hb1 hq1 hq2 hq3))
  go_region_with (first
    | (go_at_call 41
       (with_reducible refine (with_any key en hz t p _ ?_ ?_ ?_ ?_).mono ?_)
       (exact H1.out.2.2.2.below (bal w1 _).drew)
       (exact H.out.2.2.2.2.2.1)
       (exact H.out.2.2.2.2.2.2)
       (exact hcn)
       rintro e w2 ⟨t2, p2, rfl, f2, g2, b2⟩
       have b12 : Below w1.heap.size w1 w2 := ((bal w1 (.cells #[.int .i64 o.seg, .int .i64 o.at_, .int .i64 o.size, .int .i64 o.off, .int .i64 o.time, .bool o.tomb] 38)).drew).trans (b2.mono (by simp))
       have hq2 := H1.out.2.1.below b12 hl2
       have hq3 := H1.out.2.2.1.below b12 hl3
       have hq4 := (Box.new w1 38 #[.int .i64 o.seg, .int .i64 o.at_, .int .i64 o.size, .int .i64 o.off, .int .i64 o.time, .bool o.tomb]).drew.below b2 (by simp)
       have hc22 := hq2.cell
       have hf22 := hq2.free
       have hc33 := hq3.cell
       have hf33 := hq3.free
       have hc44 := hq4.cell
       have hl22 := hq2.lt
       have hl33 := hq3.lt
       have hl44 := hq4.lt
       have H2 := Lib.hid (And.intro f2 (And.intro g2 (And.intro (H1.out.1.trans (b12.mono H1.out.1.size)) (And.intro hq2 hq3))))
       clear f2 g2 b2 b12 hq2 hq3 hq4))
  all_goals
    go_wp2
    refine bodyPost_ret (v := .tuple #[o.v, .bool bo, .int .i64 0]) ?_ rfl ?_
    · simp [results, Try.results11, go_sem, hc22]
    refine ⟨rfl, DR.upd (r := w.heap.size + 1) H2.out.2.2.2.2 H2.out.2.1 H2.out.1 (H.out.2.2.2.2.2.1.put _ _) (H.out.2.2.2.2.2.2.put hz) H2.out.2.2.2.1 (by decide) (by omega) ?_, ?_⟩
    · repeat (first | with_reducible exact Chg.refl _ _ | refine Chg.setCell ?_ (by exact .inl rfl) _)
    · repeat (first | with_reducible exact Chg.of_below H2.out.2.2.1 _ | refine Chg.setCell ?_ (by first | exact .inl rfl | exact .inr (by simp)) _)
end Go.Proofs.Ytglmhpmjebjcgaa
