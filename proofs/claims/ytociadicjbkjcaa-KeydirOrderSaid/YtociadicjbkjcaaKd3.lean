import Derived.Test.YtociadicjbkjcaaKd2
import Derived.Deep.RegionWith
namespace Go.Proofs.Ytociadicjbkjcaa
open Go.RowKit Go.Maps

theorem cnt_of {t : Tn} {a b : List KE} {x : KE} (h : t.flat = a ++ x :: b) : t.cnt = a.length + b.length + 1 := by rw [Tn.cnt, h]; simp; omega
theorem nodeC_get (k : ByteArray) (e : En) (n : Nat) (p q : Option Addr) : (nodeC k e n p q)[0]? = some (.string k) ∧ (nodeC k e n p q)[1]? = some (.int .i64 e.seg) ∧ (nodeC k e n p q)[2]? = some (.int .i64 e.at_) ∧ (nodeC k e n p q)[3]? = some (.int .i64 e.size) ∧ (nodeC k e n p q)[4]? = some (.int .i64 e.off) ∧ (nodeC k e n p q)[5]? = some (.int .i64 e.time) ∧ (nodeC k e n p q)[6]? = some (.bool e.tomb) ∧ (nodeC k e n p q)[8]? = some (.pointer p) ∧ (nodeC k e n p q)[9]? = some (.pointer q) :=
  ⟨rfl, rfl, rfl, rfl, rfl, rfl, rfl, rfl, rfl⟩
/-- The cells of a node that the walk reads. -/
def NC (w : World) (b : Nat) (k : ByteArray) (e : En) (p q : Option Addr) : Prop :=
  w.cell? ⟨b, 0, none⟩ = some (.string k) ∧ w.cell? ⟨b, 1, none⟩ = some (.int .i64 e.seg) ∧ w.cell? ⟨b, 2, none⟩ = some (.int .i64 e.at_) ∧ w.cell? ⟨b, 3, none⟩ = some (.int .i64 e.size) ∧ w.cell? ⟨b, 4, none⟩ = some (.int .i64 e.off) ∧ w.cell? ⟨b, 5, none⟩ = some (.int .i64 e.time) ∧ w.cell? ⟨b, 6, none⟩ = some (.bool e.tomb) ∧ w.cell? ⟨b, 8, none⟩ = some (.pointer p) ∧ w.cell? ⟨b, 9, none⟩ = some (.pointer q)
def EC (w : World) (b : Nat) (e : En) : Prop :=
  w.cell? ⟨b, 0, none⟩ = some (.int .i64 e.seg) ∧ w.cell? ⟨b, 1, none⟩ = some (.int .i64 e.at_) ∧ w.cell? ⟨b, 2, none⟩ = some (.int .i64 e.size) ∧ w.cell? ⟨b, 3, none⟩ = some (.int .i64 e.off) ∧ w.cell? ⟨b, 4, none⟩ = some (.int .i64 e.time) ∧ w.cell? ⟨b, 5, none⟩ = some (.bool e.tomb)
theorem NC.of {w : World} {b n : Nat} {k : ByteArray} {e : En} {p q : Option Addr} (h : Box w b 82 (nodeC k e n p q)) : NC w b k e p q := by
  obtain ⟨h0, h1, h2, h3, h4, h5, h6, h8, h9⟩ := nodeC_get k e n p q
  exact ⟨(h.cell 0).trans h0, (h.cell 1).trans h1, (h.cell 2).trans h2, (h.cell 3).trans h3, (h.cell 4).trans h4, (h.cell 5).trans h5, (h.cell 6).trans h6, (h.cell 8).trans h8, (h.cell 9).trans h9⟩
theorem EC.of {w : World} {b : Nat} {t : TypeId} {e : En} (h : Box w b t e.cells.toArray) : EC w b e := ⟨h.cell 0, h.cell 1, h.cell 2, h.cell 3, h.cell 4, h.cell 5⟩
/-- A world that was reached from w, with all that was there. -/
def Aft (w W : World) : Prop := Below w.heap.size w W
theorem Aft.refl (w : World) : Aft w w := Below.refl _ _
theorem Aft.drew {w W : World} (h : Aft w W) : Aft w W.drew := Below.drew h
theorem Aft.drewN {w W : World} (h : Aft w W) {n : Nat} : Aft w (W.drewN n) := below_drewN h n
theorem quiet_same1 {P : Program} {f : FuncId} {args : Array Value} {w : World} {n : Nat} {v : Value} (h : Calls P f args (w.drewN n) fun e w' => e = .returned v ∧ w.drewN n = w') : Calls P f args (w.drewN n) fun e w'' => e = .returned v ∧ ∃ m, w'' = w.drewN m :=
  Calls.quiet_of_same (h.mono fun _ _ ⟨a, b⟩ => ⟨a, b.symm⟩)
theorem Aft.next {w W W' : World} (h : Aft w W) (hb : Below W.heap.size W W') : Aft w W' := Below.trans h (hb.mono (Below.size h))

theorem heavy_t {t u : Tn} {p q : Option Addr} {w : World} (h : Tr w w.heap.size t p) (k : Tr w w.heap.size u q) (ht : t.cnt ≤ 1000000000000000) (hu : u.cnt ≤ 1000000000000000) (hx : 3 * (u.cnt + 1) < t.cnt + 1) :
    Calls Try.prog 68 #[.pointer p, .pointer q] w fun e w' => e = .returned (.bool true) ∧ w = w' := by
  have := heavy_any t u p q _ w h k ht hu
  rwa [decide_eq_true hx] at this
theorem heavy_f {t u : Tn} {p q : Option Addr} {w : World} (h : Tr w w.heap.size t p) (k : Tr w w.heap.size u q) (ht : t.cnt ≤ 1000000000000000) (hu : u.cnt ≤ 1000000000000000) (hx : ¬ 3 * (u.cnt + 1) < t.cnt + 1) :
    Calls Try.prog 68 #[.pointer p, .pointer q] w fun e w' => e = .returned (.bool false) ∧ w = w' := by
  have := heavy_any t u p q _ w h k ht hu
  rwa [decide_eq_false hx] at this
theorem inner_t {t u : Tn} {p q : Option Addr} {w : World} (h : Tr w w.heap.size t p) (k : Tr w w.heap.size u q) (ht : t.cnt ≤ 1000000000000000) (hu : u.cnt ≤ 1000000000000000) (hx : 2 * (u.cnt + 1) ≤ t.cnt + 1) :
    Calls Try.prog 69 #[.pointer p, .pointer q] w fun e w' => e = .returned (.bool true) ∧ w = w' := by
  have := inner_any t u p q _ w h k ht hu
  rwa [decide_eq_true hx] at this
theorem inner_f {t u : Tn} {p q : Option Addr} {w : World} (h : Tr w w.heap.size t p) (k : Tr w w.heap.size u q) (ht : t.cnt ≤ 1000000000000000) (hu : u.cnt ≤ 1000000000000000) (hx : ¬ 2 * (u.cnt + 1) ≤ t.cnt + 1) :
    Calls Try.prog 69 #[.pointer p, .pointer q] w fun e w' => e = .returned (.bool false) ∧ w = w' := by
  have := inner_any t u p q _ w h k ht hu
  rwa [decide_eq_false hx] at this

set_option maxRecDepth 100000 in
set_option maxHeartbeats 8000000 in
/-- The right tree is too heavy: a single turn. -/
theorem even_r1 (k : ByteArray) (en : En) (l : Tn) (p : Option Addr) (hk : ByteArray) (he : En) (hl hr : Tn) (b : Nat) (p1 p2 : Option Addr) (w : World) (ho : Tr w w.heap.size l p) (hbw : b < w.heap.size) (h1 : Tr w w.heap.size hl p1) (h2 : Tr w w.heap.size hr p2)
    (hx : Box w b 82 (nodeC hk he (hl.cnt + hr.cnt + 1) p1 p2)) (hc : l.cnt + (hl.cnt + hr.cnt + 1) ≤ 900000000000000) (hh : 3 * (l.cnt + 1) < hl.cnt + hr.cnt + 1 + 1) (hi : ¬ 2 * (hr.cnt + 1) ≤ hl.cnt + 1) :
    Calls Try.prog 65 #[.string k, en.v, .pointer p, .pointer (some ⟨b, 0, none⟩)] w (MT (l.flat ++ (k, en) :: (hl.flat ++ (hk, he) :: hr.flat)) w) := by
  have hb0 : Below w.heap.size w (w.alloc (.cells en.cells.toArray 26)) := (Below.refl _ _).alloc (Nat.le_refl _) _
  have hE := Box.new w 26 en.cells.toArray
  have hR : Tr w w.heap.size (.node hk he hl hr) (some ⟨b, 0, none⟩) := ⟨b, p1, p2, rfl, hbw, by rw [Tn.cnt_node]; exact hx, h1, h2⟩
  have hT : ∀ W, Aft (w.alloc (.cells en.cells.toArray 26)) W → Tr W W.heap.size l p ∧ Tr W W.heap.size (.node hk he hl hr) (some ⟨b, 0, none⟩) ∧ Tr W W.heap.size hl p1 ∧ Tr W W.heap.size hr p2 ∧ NC W b hk he p1 p2 ∧ EC W w.heap.size en ∧ Below w.heap.size w W := fun W hW => by
    have hbW : Below w.heap.size w W := hb0.trans (Below.mono hW (by simp))
    exact ⟨ho.below hbW, hR.below hbW, h1.below hbW, h2.below hbW, NC.of (hx.below hbW hbw), EC.of (hE.below hW (by simp)), hbW⟩
  obtain ⟨_, _, _, _, hN, hEC, _⟩ := hT _ (Aft.refl _)
  have HT := Lib.hid hT
  have HC := Lib.hid (Tn.cnt_node hk he hl hr)
  clear hb0 hE hR hT ho h1 h2 hx
  obtain ⟨n0, n1, n2, n3, n4, n5, n6, n8, n9⟩ := hN
  obtain ⟨e0, e1, e2, e3, e4, e5⟩ := hEC
  unfold En.cells at *
  unfold En.v
  go_enter Try.func65, Try.ntmps65
  go_wp2
  go_region_held3 (fun w' => w'.cell? ⟨b, 8, none⟩ = some (.pointer p1) ∧ w'.cell? ⟨b, 9, none⟩ = some (.pointer p2)) (go_keep)
    (first
      | (go_at_call 68; (with_reducible refine (heavy_t (t := .node hk he hl hr) (u := l) ?_ ?_ ?_ ?_ ?_).mono ?_); (exact (HT.out _ (Aft.refl _).drew).2.1); (exact (HT.out _ (Aft.refl _).drew).1); (have := HC.out; omega); (have := HC.out; omega); (have := HC.out; omega); rintro e w' ⟨rfl, rfl⟩)
      | (go_at_call 69; (with_reducible refine (inner_f (t := hl) (u := hr) ?_ ?_ ?_ ?_ ?_).mono ?_); (exact (HT.out _ (Aft.refl _).drew).2.2.1); (exact (HT.out _ (Aft.refl _).drew).2.2.2.1); (have := HC.out; omega); (have := HC.out; omega); (have := HC.out; omega); rintro e w' ⟨rfl, rfl⟩))
  go_wp2
  go_region_held3 (fun w' => w'.cell? ⟨b, 0, none⟩ = some (.string hk) ∧ w'.cell? ⟨b, 1, none⟩ = some (.int .i64 he.seg) ∧ w'.cell? ⟨b, 2, none⟩ = some (.int .i64 he.at_) ∧ w'.cell? ⟨b, 3, none⟩ = some (.int .i64 he.size) ∧ w'.cell? ⟨b, 4, none⟩ = some (.int .i64 he.off) ∧ w'.cell? ⟨b, 5, none⟩ = some (.int .i64 he.time) ∧ w'.cell? ⟨b, 6, none⟩ = some (.bool he.tomb) ∧ w'.cell? ⟨b, 8, none⟩ = some (.pointer p1) ∧ w'.cell? ⟨b, 9, none⟩ = some (.pointer p2) ∧ w'.cell? ⟨w.heap.size, 0, none⟩ = some (.int .i64 en.seg) ∧ w'.cell? ⟨w.heap.size, 1, none⟩ = some (.int .i64 en.at_) ∧ w'.cell? ⟨w.heap.size, 2, none⟩ = some (.int .i64 en.size) ∧ w'.cell? ⟨w.heap.size, 3, none⟩ = some (.int .i64 en.off) ∧ w'.cell? ⟨w.heap.size, 4, none⟩ = some (.int .i64 en.time) ∧ w'.cell? ⟨w.heap.size, 5, none⟩ = some (.bool en.tomb)) (go_keep)
    (first
      | (go_at_call 64; (with_reducible refine (join_any k en l hl _ _ _ ?_ ?_ ?_ ?_).mono ?_); (first | exact (HT.out _ (Aft.refl _).drew.drew).1); (first | exact (HT.out _ (Aft.refl _).drew.drew).2.2.1); (have := HC.out; omega); (have := HC.out; omega); rintro e w1 ⟨t1, q1, rfl, f1, g1, b1⟩; have a1 : Aft (w.alloc (.cells en.cells.toArray 26)) w1 := (by (first | exact Aft.next (Aft.refl _).drew.drew b1)); have F1 := Lib.hid (And.intro f1 (And.intro g1 b1)); obtain ⟨_, _, _, _, ⟨z0, z1, z2, z3, z4, z5, z6, z8, z9⟩, ⟨y0, y1, y2, y3, y4, y5⟩, _⟩ := HT.out _ a1; clear f1 g1 b1)
      | (go_at_call 64; (with_reducible refine (join_any hk he t1 hr _ _ _ ?_ ?_ ?_ ?_).mono ?_); (first | exact F1.out.2.1); (first | exact (HT.out _ a1).2.2.2.1); (have := HC.out; have := cnt_of F1.out.1; unfold Tn.cnt at *; omega); (have := HC.out; have := cnt_of F1.out.1; unfold Tn.cnt at *; omega); rintro e w2 ⟨t2, q2, rfl, f2, g2, b2⟩; have a2 : Aft (w.alloc (.cells en.cells.toArray 26)) w2 := (by (first | exact Aft.next a1 b2)); have F2 := Lib.hid (And.intro f2 (And.intro g2 b2)); obtain ⟨_, _, _, _, ⟨z0, z1, z2, z3, z4, z5, z6, z8, z9⟩, ⟨y0, y1, y2, y3, y4, y5⟩, _⟩ := HT.out _ a2; clear f2 g2 b2))
  all_goals
    go_wp2
    go_ret
    exact ⟨t2, q2, rfl, by rw [F2.out.1, F1.out.1]; simp, F2.out.2.1, (HT.out _ a2).2.2.2.2.2.2⟩

set_option maxRecDepth 100000 in
set_option maxHeartbeats 8000000 in
/-- The left tree is too heavy: a single turn. -/
theorem even_l1 (k : ByteArray) (en : En) (r : Tn) (q : Option Addr) (hk : ByteArray) (he : En) (hl hr : Tn) (b : Nat) (p1 p2 : Option Addr) (w : World) (ho : Tr w w.heap.size r q) (hbw : b < w.heap.size) (h1 : Tr w w.heap.size hl p1) (h2 : Tr w w.heap.size hr p2)
    (hx : Box w b 82 (nodeC hk he (hl.cnt + hr.cnt + 1) p1 p2)) (hc : r.cnt + (hl.cnt + hr.cnt + 1) ≤ 900000000000000) (hh : 3 * (r.cnt + 1) < hl.cnt + hr.cnt + 1 + 1) (hi : ¬ 2 * (hl.cnt + 1) ≤ hr.cnt + 1) :
    Calls Try.prog 65 #[.string k, en.v, .pointer (some ⟨b, 0, none⟩), .pointer q] w (MT ((hl.flat ++ (hk, he) :: hr.flat) ++ (k, en) :: r.flat) w) := by
  have hb0 : Below w.heap.size w (w.alloc (.cells en.cells.toArray 26)) := (Below.refl _ _).alloc (Nat.le_refl _) _
  have hE := Box.new w 26 en.cells.toArray
  have hR : Tr w w.heap.size (.node hk he hl hr) (some ⟨b, 0, none⟩) := ⟨b, p1, p2, rfl, hbw, by rw [Tn.cnt_node]; exact hx, h1, h2⟩
  have hT : ∀ W, Aft (w.alloc (.cells en.cells.toArray 26)) W → Tr W W.heap.size r q ∧ Tr W W.heap.size (.node hk he hl hr) (some ⟨b, 0, none⟩) ∧ Tr W W.heap.size hl p1 ∧ Tr W W.heap.size hr p2 ∧ NC W b hk he p1 p2 ∧ EC W w.heap.size en ∧ Below w.heap.size w W := fun W hW => by
    have hbW : Below w.heap.size w W := hb0.trans (Below.mono hW (by simp))
    exact ⟨ho.below hbW, hR.below hbW, h1.below hbW, h2.below hbW, NC.of (hx.below hbW hbw), EC.of (hE.below hW (by simp)), hbW⟩
  obtain ⟨_, _, _, _, hN, hEC, _⟩ := hT _ (Aft.refl _)
  have HT := Lib.hid hT
  have HC := Lib.hid (Tn.cnt_node hk he hl hr)
  clear hb0 hE hR hT ho h1 h2 hx
  obtain ⟨n0, n1, n2, n3, n4, n5, n6, n8, n9⟩ := hN
  obtain ⟨e0, e1, e2, e3, e4, e5⟩ := hEC
  unfold En.cells at *
  unfold En.v
  go_enter Try.func65, Try.ntmps65
  go_wp2
  go_quiet ((go_at_call 68; exact quiet_same1 (heavy_f (t := r) (u := .node hk he hl hr) (HT.out _ (Aft.refl _).drewN).1 (HT.out _ (Aft.refl _).drewN).2.1 (by omega) (by have := HC.out; omega) (by have := HC.out; omega))))
  go_wp2_with (first
    | (go_at_call 68; (with_reducible refine (heavy_f (t := r) (u := .node hk he hl hr) ?_ ?_ ?_ ?_ ?_).mono ?_); (exact (HT.out _ (Aft.refl _).drewN).1); (exact (HT.out _ (Aft.refl _).drewN).2.1); (have := HC.out; omega); (have := HC.out; omega); (have := HC.out; omega); rintro e w' ⟨rfl, rfl⟩))
  go_region_held3 (fun w' => w'.cell? ⟨b, 8, none⟩ = some (.pointer p1) ∧ w'.cell? ⟨b, 9, none⟩ = some (.pointer p2)) (go_keep)
    (first
      | (go_at_call 68; (with_reducible refine (heavy_t (t := .node hk he hl hr) (u := r) ?_ ?_ ?_ ?_ ?_).mono ?_); (exact (HT.out _ (Aft.refl _).drewN.drew).2.1); (exact (HT.out _ (Aft.refl _).drewN.drew).1); (have := HC.out; omega); (have := HC.out; omega); (have := HC.out; omega); rintro e w' ⟨rfl, rfl⟩)
      | (go_at_call 69; (with_reducible refine (inner_f (t := hr) (u := hl) ?_ ?_ ?_ ?_ ?_).mono ?_); (exact (HT.out _ (Aft.refl _).drewN.drew).2.2.2.1); (exact (HT.out _ (Aft.refl _).drewN.drew).2.2.1); (have := HC.out; omega); (have := HC.out; omega); (have := HC.out; omega); rintro e w' ⟨rfl, rfl⟩))
  go_wp2
  go_region_held3 (fun w' => w'.cell? ⟨b, 0, none⟩ = some (.string hk) ∧ w'.cell? ⟨b, 1, none⟩ = some (.int .i64 he.seg) ∧ w'.cell? ⟨b, 2, none⟩ = some (.int .i64 he.at_) ∧ w'.cell? ⟨b, 3, none⟩ = some (.int .i64 he.size) ∧ w'.cell? ⟨b, 4, none⟩ = some (.int .i64 he.off) ∧ w'.cell? ⟨b, 5, none⟩ = some (.int .i64 he.time) ∧ w'.cell? ⟨b, 6, none⟩ = some (.bool he.tomb) ∧ w'.cell? ⟨b, 8, none⟩ = some (.pointer p1) ∧ w'.cell? ⟨b, 9, none⟩ = some (.pointer p2) ∧ w'.cell? ⟨w.heap.size, 0, none⟩ = some (.int .i64 en.seg) ∧ w'.cell? ⟨w.heap.size, 1, none⟩ = some (.int .i64 en.at_) ∧ w'.cell? ⟨w.heap.size, 2, none⟩ = some (.int .i64 en.size) ∧ w'.cell? ⟨w.heap.size, 3, none⟩ = some (.int .i64 en.off) ∧ w'.cell? ⟨w.heap.size, 4, none⟩ = some (.int .i64 en.time) ∧ w'.cell? ⟨w.heap.size, 5, none⟩ = some (.bool en.tomb)) (go_keep)
    (first
      | (go_at_call 64; (with_reducible refine (join_any k en hr r _ _ _ ?_ ?_ ?_ ?_).mono ?_); (first | exact (HT.out _ (Aft.refl _).drewN.drew.drew).2.2.2.1); (first | exact (HT.out _ (Aft.refl _).drewN.drew.drew).1); (have := HC.out; omega); (have := HC.out; omega); rintro e w1 ⟨t1, q1, rfl, f1, g1, b1⟩; have a1 : Aft (w.alloc (.cells en.cells.toArray 26)) w1 := (by (first | exact Aft.next (Aft.refl _).drewN.drew.drew b1)); have F1 := Lib.hid (And.intro f1 (And.intro g1 b1)); obtain ⟨_, _, _, _, ⟨z0, z1, z2, z3, z4, z5, z6, z8, z9⟩, ⟨y0, y1, y2, y3, y4, y5⟩, _⟩ := HT.out _ a1; clear f1 g1 b1)
      | (go_at_call 64; (with_reducible refine (join_any hk he hl t1 _ _ _ ?_ ?_ ?_ ?_).mono ?_); (first | exact (HT.out _ a1).2.2.1); (first | exact F1.out.2.1); (have := HC.out; have := cnt_of F1.out.1; unfold Tn.cnt at *; omega); (have := HC.out; have := cnt_of F1.out.1; unfold Tn.cnt at *; omega); rintro e w2 ⟨t2, q2, rfl, f2, g2, b2⟩; have a2 : Aft (w.alloc (.cells en.cells.toArray 26)) w2 := (by (first | exact Aft.next a1 b2)); have F2 := Lib.hid (And.intro f2 (And.intro g2 b2)); obtain ⟨_, _, _, _, ⟨z0, z1, z2, z3, z4, z5, z6, z8, z9⟩, ⟨y0, y1, y2, y3, y4, y5⟩, _⟩ := HT.out _ a2; clear f2 g2 b2))
  all_goals
    go_wp2
    go_ret
    exact ⟨t2, q2, rfl, by rw [F2.out.1, F1.out.1]; simp, F2.out.2.1, (HT.out _ a2).2.2.2.2.2.2⟩

set_option maxRecDepth 100000 in
set_option maxHeartbeats 8000000 in
/-- The right tree is too heavy, its left one within: a double turn. -/
theorem even_r2 (k : ByteArray) (en : En) (l : Tn) (p : Option Addr) (hk : ByteArray) (he : En) (hr : Tn) (b : Nat) (p2 : Option Addr) (mk : ByteArray) (me : En) (ml mr : Tn) (mb : Nat) (w : World) (ho : Tr w w.heap.size l p) (hbw : b < w.heap.size) (h1 : Tr w w.heap.size (Tn.node mk me ml mr) (some ⟨mb, 0, none⟩)) (h2 : Tr w w.heap.size hr p2)
    (hx : Box w b 82 (nodeC hk he ((Tn.node mk me ml mr).cnt + hr.cnt + 1) (some ⟨mb, 0, none⟩) p2)) (hc : l.cnt + ((Tn.node mk me ml mr).cnt + hr.cnt + 1) ≤ 900000000000000) (hh : 3 * (l.cnt + 1) < (Tn.node mk me ml mr).cnt + hr.cnt + 1 + 1) (hi : 2 * (hr.cnt + 1) ≤ (Tn.node mk me ml mr).cnt + 1) :
    Calls Try.prog 65 #[.string k, en.v, .pointer p, .pointer (some ⟨b, 0, none⟩)] w (MT (l.flat ++ (k, en) :: ((Tn.node mk me ml mr).flat ++ (hk, he) :: hr.flat)) w) := by
  have hb0 : Below w.heap.size w (w.alloc (.cells en.cells.toArray 26)) := (Below.refl _ _).alloc (Nat.le_refl _) _
  have hE := Box.new w 26 en.cells.toArray
  have hR : Tr w w.heap.size (.node hk he (Tn.node mk me ml mr) hr) (some ⟨b, 0, none⟩) := ⟨b, (some ⟨mb, 0, none⟩), p2, rfl, hbw, by rw [Tn.cnt_node]; exact hx, h1, h2⟩
  obtain ⟨mb', m1', m2', hmp, hmb, hm1, hm2, hmx⟩ := h1.cells
  cases hmp
  have hT : ∀ W, Aft (w.alloc (.cells en.cells.toArray 26)) W → Tr W W.heap.size l p ∧ Tr W W.heap.size (.node hk he (Tn.node mk me ml mr) hr) (some ⟨b, 0, none⟩) ∧ Tr W W.heap.size (Tn.node mk me ml mr) (some ⟨mb, 0, none⟩) ∧ Tr W W.heap.size hr p2 ∧ NC W b hk he (some ⟨mb, 0, none⟩) p2 ∧ EC W w.heap.size en ∧ Below w.heap.size w W ∧ Tr W W.heap.size ml m1' ∧ Tr W W.heap.size mr m2' ∧ NC W mb mk me m1' m2' := fun W hW => by
    have hbW : Below w.heap.size w W := hb0.trans (Below.mono hW (by simp))
    exact ⟨ho.below hbW, hR.below hbW, h1.below hbW, h2.below hbW, NC.of (hx.below hbW hbw), EC.of (hE.below hW (by simp)), hbW, hm1.below hbW, hm2.below hbW, NC.of (hmx.below hbW hmb)⟩
  obtain ⟨_, _, _, _, hN, hEC, _, _, _, hM⟩ := hT _ (Aft.refl _)
  have HT := Lib.hid hT
  have HC := Lib.hid (Tn.cnt_node hk he (Tn.node mk me ml mr) hr)
  have HM := Lib.hid (Tn.cnt_node mk me ml mr)
  clear hb0 hE hR hT ho h1 h2 hx hm1 hm2 hmx
  obtain ⟨n0, n1, n2, n3, n4, n5, n6, n8, n9⟩ := hN
  obtain ⟨e0, e1, e2, e3, e4, e5⟩ := hEC
  obtain ⟨o0, o1, o2, o3, o4, o5, o6, o8, o9⟩ := hM
  unfold En.cells at *
  unfold En.v
  go_enter Try.func65, Try.ntmps65
  go_wp2
  go_region_held3 (fun w' => w'.cell? ⟨b, 8, none⟩ = some (.pointer (some ⟨mb, 0, none⟩)) ∧ w'.cell? ⟨b, 9, none⟩ = some (.pointer p2)) (go_keep)
    (first
      | (go_at_call 68; (with_reducible refine (heavy_t (t := .node hk he (Tn.node mk me ml mr) hr) (u := l) ?_ ?_ ?_ ?_ ?_).mono ?_); (exact (HT.out _ (Aft.refl _).drew).2.1); (exact (HT.out _ (Aft.refl _).drew).1); (have := HC.out; have := HM.out; omega); (have := HC.out; have := HM.out; omega); (have := HC.out; have := HM.out; omega); rintro e w' ⟨rfl, rfl⟩)
      | (go_at_call 69; (with_reducible refine (inner_t (t := (Tn.node mk me ml mr)) (u := hr) ?_ ?_ ?_ ?_ ?_).mono ?_); (exact (HT.out _ (Aft.refl _).drew).2.2.1); (exact (HT.out _ (Aft.refl _).drew).2.2.2.1); (have := HC.out; have := HM.out; omega); (have := HC.out; have := HM.out; omega); (have := HC.out; have := HM.out; omega); rintro e w' ⟨rfl, rfl⟩))
  go_wp2_with (first
    | (go_at_call 68; (with_reducible refine (heavy_t (t := .node hk he (Tn.node mk me ml mr) hr) (u := l) ?_ ?_ ?_ ?_ ?_).mono ?_); (exact (HT.out _ (Aft.refl _).drew).2.1); (exact (HT.out _ (Aft.refl _).drew).1); (have := HC.out; have := HM.out; omega); (have := HC.out; have := HM.out; omega); (have := HC.out; have := HM.out; omega); rintro e w' ⟨rfl, rfl⟩))
  go_region_held3 (fun w' => w'.cell? ⟨b, 0, none⟩ = some (.string hk) ∧ w'.cell? ⟨b, 1, none⟩ = some (.int .i64 he.seg) ∧ w'.cell? ⟨b, 2, none⟩ = some (.int .i64 he.at_) ∧ w'.cell? ⟨b, 3, none⟩ = some (.int .i64 he.size) ∧ w'.cell? ⟨b, 4, none⟩ = some (.int .i64 he.off) ∧ w'.cell? ⟨b, 5, none⟩ = some (.int .i64 he.time) ∧ w'.cell? ⟨b, 6, none⟩ = some (.bool he.tomb) ∧ w'.cell? ⟨b, 8, none⟩ = some (.pointer (some ⟨mb, 0, none⟩)) ∧ w'.cell? ⟨b, 9, none⟩ = some (.pointer p2) ∧ w'.cell? ⟨w.heap.size, 0, none⟩ = some (.int .i64 en.seg) ∧ w'.cell? ⟨w.heap.size, 1, none⟩ = some (.int .i64 en.at_) ∧ w'.cell? ⟨w.heap.size, 2, none⟩ = some (.int .i64 en.size) ∧ w'.cell? ⟨w.heap.size, 3, none⟩ = some (.int .i64 en.off) ∧ w'.cell? ⟨w.heap.size, 4, none⟩ = some (.int .i64 en.time) ∧ w'.cell? ⟨w.heap.size, 5, none⟩ = some (.bool en.tomb) ∧ w'.cell? ⟨mb, 0, none⟩ = some (.string mk) ∧ w'.cell? ⟨mb, 1, none⟩ = some (.int .i64 me.seg) ∧ w'.cell? ⟨mb, 2, none⟩ = some (.int .i64 me.at_) ∧ w'.cell? ⟨mb, 3, none⟩ = some (.int .i64 me.size) ∧ w'.cell? ⟨mb, 4, none⟩ = some (.int .i64 me.off) ∧ w'.cell? ⟨mb, 5, none⟩ = some (.int .i64 me.time) ∧ w'.cell? ⟨mb, 6, none⟩ = some (.bool me.tomb) ∧ w'.cell? ⟨mb, 8, none⟩ = some (.pointer m1') ∧ w'.cell? ⟨mb, 9, none⟩ = some (.pointer m2')) (go_keep)
    (first
      | (go_at_call 64; (with_reducible refine (join_any k en l ml _ _ _ ?_ ?_ ?_ ?_).mono ?_); (first | exact (HT.out _ (Aft.refl _).drew.drew).1 | exact (HT.out _ a2).1); (first | exact (HT.out _ (Aft.refl _).drew.drew).2.2.2.2.2.2.2.1 | exact (HT.out _ a2).2.2.2.2.2.2.2.1); (have := HC.out; have := HM.out; omega); (have := HC.out; have := HM.out; omega); rintro e w1 ⟨t1, q1, rfl, f1, g1, b1⟩; have a1 : Aft (w.alloc (.cells en.cells.toArray 26)) w1 := (by (first | exact Aft.next (Aft.refl _).drew.drew b1 | exact Aft.next a2 b1)); have F1 := Lib.hid (And.intro f1 (And.intro g1 b1)); obtain ⟨_, _, _, _, ⟨z0, z1, z2, z3, z4, z5, z6, z8, z9⟩, ⟨y0, y1, y2, y3, y4, y5⟩, _, _, _, ⟨x0, x1, x2, x3, x4, x5, x6, x8, x9⟩⟩ := HT.out _ a1; clear f1 g1 b1)
      | (go_at_call 64; (with_reducible refine (join_any hk he mr hr _ _ _ ?_ ?_ ?_ ?_).mono ?_); (first | exact (HT.out _ (Aft.refl _).drew.drew).2.2.2.2.2.2.2.2.1 | exact (HT.out _ a1).2.2.2.2.2.2.2.2.1); (first | exact (HT.out _ (Aft.refl _).drew.drew).2.2.2.1 | exact (HT.out _ a1).2.2.2.1); (have := HC.out; have := HM.out; omega); (have := HC.out; have := HM.out; omega); rintro e w2 ⟨t2, q2, rfl, f2, g2, b2⟩; have a2 : Aft (w.alloc (.cells en.cells.toArray 26)) w2 := (by (first | exact Aft.next (Aft.refl _).drew.drew b2 | exact Aft.next a1 b2)); have F2 := Lib.hid (And.intro f2 (And.intro g2 b2)); obtain ⟨_, _, _, _, ⟨z0, z1, z2, z3, z4, z5, z6, z8, z9⟩, ⟨y0, y1, y2, y3, y4, y5⟩, _, _, _, ⟨x0, x1, x2, x3, x4, x5, x6, x8, x9⟩⟩ := HT.out _ a2; clear f2 g2 b2)
      | (go_at_call 64; (with_reducible refine (join_any mk me t1 t2 _ _ _ ?_ ?_ ?_ ?_).mono ?_); (first | exact F1.out.2.1 | exact F1.out.2.1.below F2.out.2.2); (first | exact F2.out.2.1 | exact F2.out.2.1.below F1.out.2.2); (have := HC.out; have := HM.out; have := cnt_of F1.out.1; have := cnt_of F2.out.1; unfold Tn.cnt at *; omega); (have := HC.out; have := HM.out; have := cnt_of F1.out.1; have := cnt_of F2.out.1; unfold Tn.cnt at *; omega); rintro e w3 ⟨t3, q3, rfl, f3, g3, b3⟩; have a3 : Aft (w.alloc (.cells en.cells.toArray 26)) w3 := (by (first | exact Aft.next a2 b3 | exact Aft.next a1 b3)); have F3 := Lib.hid (And.intro f3 (And.intro g3 b3)); obtain ⟨_, _, _, _, ⟨z0, z1, z2, z3, z4, z5, z6, z8, z9⟩, ⟨y0, y1, y2, y3, y4, y5⟩, _, _, _, ⟨x0, x1, x2, x3, x4, x5, x6, x8, x9⟩⟩ := HT.out _ a3; clear f3 g3 b3))
  all_goals
    go_wp2
    go_ret
    exact ⟨t3, q3, rfl, by rw [F3.out.1, F1.out.1, F2.out.1]; simp [Tn.flat], F3.out.2.1, (HT.out _ a3).2.2.2.2.2.2.1⟩

set_option maxRecDepth 100000 in
set_option maxHeartbeats 8000000 in
/-- The left tree is too heavy, its right one within: a double turn. -/
theorem even_l2 (k : ByteArray) (en : En) (r : Tn) (q : Option Addr) (hk : ByteArray) (he : En) (hl : Tn) (b : Nat) (p1 : Option Addr) (mk : ByteArray) (me : En) (ml mr : Tn) (mb : Nat) (w : World) (ho : Tr w w.heap.size r q) (hbw : b < w.heap.size) (h1 : Tr w w.heap.size hl p1) (h2 : Tr w w.heap.size (Tn.node mk me ml mr) (some ⟨mb, 0, none⟩))
    (hx : Box w b 82 (nodeC hk he (hl.cnt + (Tn.node mk me ml mr).cnt + 1) p1 (some ⟨mb, 0, none⟩))) (hc : r.cnt + (hl.cnt + (Tn.node mk me ml mr).cnt + 1) ≤ 900000000000000) (hh : 3 * (r.cnt + 1) < hl.cnt + (Tn.node mk me ml mr).cnt + 1 + 1) (hi : 2 * (hl.cnt + 1) ≤ (Tn.node mk me ml mr).cnt + 1) :
    Calls Try.prog 65 #[.string k, en.v, .pointer (some ⟨b, 0, none⟩), .pointer q] w (MT ((hl.flat ++ (hk, he) :: (Tn.node mk me ml mr).flat) ++ (k, en) :: r.flat) w) := by
  have hb0 : Below w.heap.size w (w.alloc (.cells en.cells.toArray 26)) := (Below.refl _ _).alloc (Nat.le_refl _) _
  have hE := Box.new w 26 en.cells.toArray
  have hR : Tr w w.heap.size (.node hk he hl (Tn.node mk me ml mr)) (some ⟨b, 0, none⟩) := ⟨b, p1, (some ⟨mb, 0, none⟩), rfl, hbw, by rw [Tn.cnt_node]; exact hx, h1, h2⟩
  obtain ⟨mb', m1', m2', hmp, hmb, hm1, hm2, hmx⟩ := h2.cells
  cases hmp
  have hT : ∀ W, Aft (w.alloc (.cells en.cells.toArray 26)) W → Tr W W.heap.size r q ∧ Tr W W.heap.size (.node hk he hl (Tn.node mk me ml mr)) (some ⟨b, 0, none⟩) ∧ Tr W W.heap.size hl p1 ∧ Tr W W.heap.size (Tn.node mk me ml mr) (some ⟨mb, 0, none⟩) ∧ NC W b hk he p1 (some ⟨mb, 0, none⟩) ∧ EC W w.heap.size en ∧ Below w.heap.size w W ∧ Tr W W.heap.size ml m1' ∧ Tr W W.heap.size mr m2' ∧ NC W mb mk me m1' m2' := fun W hW => by
    have hbW : Below w.heap.size w W := hb0.trans (Below.mono hW (by simp))
    exact ⟨ho.below hbW, hR.below hbW, h1.below hbW, h2.below hbW, NC.of (hx.below hbW hbw), EC.of (hE.below hW (by simp)), hbW, hm1.below hbW, hm2.below hbW, NC.of (hmx.below hbW hmb)⟩
  obtain ⟨_, _, _, _, hN, hEC, _, _, _, hM⟩ := hT _ (Aft.refl _)
  have HT := Lib.hid hT
  have HC := Lib.hid (Tn.cnt_node hk he hl (Tn.node mk me ml mr))
  have HM := Lib.hid (Tn.cnt_node mk me ml mr)
  clear hb0 hE hR hT ho h1 h2 hx hm1 hm2 hmx
  obtain ⟨n0, n1, n2, n3, n4, n5, n6, n8, n9⟩ := hN
  obtain ⟨e0, e1, e2, e3, e4, e5⟩ := hEC
  obtain ⟨o0, o1, o2, o3, o4, o5, o6, o8, o9⟩ := hM
  unfold En.cells at *
  unfold En.v
  go_enter Try.func65, Try.ntmps65
  go_wp2
  go_quiet ((go_at_call 68; exact quiet_same1 (heavy_f (t := r) (u := .node hk he hl (Tn.node mk me ml mr)) (HT.out _ (Aft.refl _).drewN).1 (HT.out _ (Aft.refl _).drewN).2.1 (by omega) (by have := HC.out; have := HM.out; omega) (by have := HC.out; have := HM.out; omega))))
  go_wp2_with (first
    | (go_at_call 68; (with_reducible refine (heavy_f (t := r) (u := .node hk he hl (Tn.node mk me ml mr)) ?_ ?_ ?_ ?_ ?_).mono ?_); (exact (HT.out _ (Aft.refl _).drewN).1); (exact (HT.out _ (Aft.refl _).drewN).2.1); (have := HC.out; have := HM.out; omega); (have := HC.out; have := HM.out; omega); (have := HC.out; have := HM.out; omega); rintro e w' ⟨rfl, rfl⟩))
  go_region_held3 (fun w' => w'.cell? ⟨b, 8, none⟩ = some (.pointer p1) ∧ w'.cell? ⟨b, 9, none⟩ = some (.pointer (some ⟨mb, 0, none⟩))) (go_keep)
    (first
      | (go_at_call 68; (with_reducible refine (heavy_t (t := .node hk he hl (Tn.node mk me ml mr)) (u := r) ?_ ?_ ?_ ?_ ?_).mono ?_); (exact (HT.out _ (Aft.refl _).drewN.drew).2.1); (exact (HT.out _ (Aft.refl _).drewN.drew).1); (have := HC.out; have := HM.out; omega); (have := HC.out; have := HM.out; omega); (have := HC.out; have := HM.out; omega); rintro e w' ⟨rfl, rfl⟩)
      | (go_at_call 69; (with_reducible refine (inner_t (t := (Tn.node mk me ml mr)) (u := hl) ?_ ?_ ?_ ?_ ?_).mono ?_); (exact (HT.out _ (Aft.refl _).drewN.drew).2.2.2.1); (exact (HT.out _ (Aft.refl _).drewN.drew).2.2.1); (have := HC.out; have := HM.out; omega); (have := HC.out; have := HM.out; omega); (have := HC.out; have := HM.out; omega); rintro e w' ⟨rfl, rfl⟩))
  go_wp2_with (first
    | (go_at_call 68; (with_reducible refine (heavy_t (t := .node hk he hl (Tn.node mk me ml mr)) (u := r) ?_ ?_ ?_ ?_ ?_).mono ?_); (exact (HT.out _ (Aft.refl _).drewN.drew).2.1); (exact (HT.out _ (Aft.refl _).drewN.drew).1); (have := HC.out; have := HM.out; omega); (have := HC.out; have := HM.out; omega); (have := HC.out; have := HM.out; omega); rintro e w' ⟨rfl, rfl⟩))
  go_region_held3 (fun w' => w'.cell? ⟨b, 0, none⟩ = some (.string hk) ∧ w'.cell? ⟨b, 1, none⟩ = some (.int .i64 he.seg) ∧ w'.cell? ⟨b, 2, none⟩ = some (.int .i64 he.at_) ∧ w'.cell? ⟨b, 3, none⟩ = some (.int .i64 he.size) ∧ w'.cell? ⟨b, 4, none⟩ = some (.int .i64 he.off) ∧ w'.cell? ⟨b, 5, none⟩ = some (.int .i64 he.time) ∧ w'.cell? ⟨b, 6, none⟩ = some (.bool he.tomb) ∧ w'.cell? ⟨b, 8, none⟩ = some (.pointer p1) ∧ w'.cell? ⟨b, 9, none⟩ = some (.pointer (some ⟨mb, 0, none⟩)) ∧ w'.cell? ⟨w.heap.size, 0, none⟩ = some (.int .i64 en.seg) ∧ w'.cell? ⟨w.heap.size, 1, none⟩ = some (.int .i64 en.at_) ∧ w'.cell? ⟨w.heap.size, 2, none⟩ = some (.int .i64 en.size) ∧ w'.cell? ⟨w.heap.size, 3, none⟩ = some (.int .i64 en.off) ∧ w'.cell? ⟨w.heap.size, 4, none⟩ = some (.int .i64 en.time) ∧ w'.cell? ⟨w.heap.size, 5, none⟩ = some (.bool en.tomb) ∧ w'.cell? ⟨mb, 0, none⟩ = some (.string mk) ∧ w'.cell? ⟨mb, 1, none⟩ = some (.int .i64 me.seg) ∧ w'.cell? ⟨mb, 2, none⟩ = some (.int .i64 me.at_) ∧ w'.cell? ⟨mb, 3, none⟩ = some (.int .i64 me.size) ∧ w'.cell? ⟨mb, 4, none⟩ = some (.int .i64 me.off) ∧ w'.cell? ⟨mb, 5, none⟩ = some (.int .i64 me.time) ∧ w'.cell? ⟨mb, 6, none⟩ = some (.bool me.tomb) ∧ w'.cell? ⟨mb, 8, none⟩ = some (.pointer m1') ∧ w'.cell? ⟨mb, 9, none⟩ = some (.pointer m2')) (go_keep)
    (first
      | (go_at_call 64; (with_reducible refine (join_any hk he hl ml _ _ _ ?_ ?_ ?_ ?_).mono ?_); (first | exact (HT.out _ (Aft.refl _).drewN.drew.drew).2.2.1 | exact (HT.out _ a2).2.2.1); (first | exact (HT.out _ (Aft.refl _).drewN.drew.drew).2.2.2.2.2.2.2.1 | exact (HT.out _ a2).2.2.2.2.2.2.2.1); (have := HC.out; have := HM.out; omega); (have := HC.out; have := HM.out; omega); rintro e w1 ⟨t1, q1, rfl, f1, g1, b1⟩; have a1 : Aft (w.alloc (.cells en.cells.toArray 26)) w1 := (by (first | exact Aft.next (Aft.refl _).drewN.drew.drew b1 | exact Aft.next a2 b1)); have F1 := Lib.hid (And.intro f1 (And.intro g1 b1)); obtain ⟨_, _, _, _, ⟨z0, z1, z2, z3, z4, z5, z6, z8, z9⟩, ⟨y0, y1, y2, y3, y4, y5⟩, _, _, _, ⟨x0, x1, x2, x3, x4, x5, x6, x8, x9⟩⟩ := HT.out _ a1; clear f1 g1 b1)
      | (go_at_call 64; (with_reducible refine (join_any k en mr r _ _ _ ?_ ?_ ?_ ?_).mono ?_); (first | exact (HT.out _ (Aft.refl _).drewN.drew.drew).2.2.2.2.2.2.2.2.1 | exact (HT.out _ a1).2.2.2.2.2.2.2.2.1); (first | exact (HT.out _ (Aft.refl _).drewN.drew.drew).1 | exact (HT.out _ a1).1); (have := HC.out; have := HM.out; omega); (have := HC.out; have := HM.out; omega); rintro e w2 ⟨t2, q2, rfl, f2, g2, b2⟩; have a2 : Aft (w.alloc (.cells en.cells.toArray 26)) w2 := (by (first | exact Aft.next (Aft.refl _).drewN.drew.drew b2 | exact Aft.next a1 b2)); have F2 := Lib.hid (And.intro f2 (And.intro g2 b2)); obtain ⟨_, _, _, _, ⟨z0, z1, z2, z3, z4, z5, z6, z8, z9⟩, ⟨y0, y1, y2, y3, y4, y5⟩, _, _, _, ⟨x0, x1, x2, x3, x4, x5, x6, x8, x9⟩⟩ := HT.out _ a2; clear f2 g2 b2)
      | (go_at_call 64; (with_reducible refine (join_any mk me t1 t2 _ _ _ ?_ ?_ ?_ ?_).mono ?_); (first | exact F1.out.2.1 | exact F1.out.2.1.below F2.out.2.2); (first | exact F2.out.2.1 | exact F2.out.2.1.below F1.out.2.2); (have := HC.out; have := HM.out; have := cnt_of F1.out.1; have := cnt_of F2.out.1; unfold Tn.cnt at *; omega); (have := HC.out; have := HM.out; have := cnt_of F1.out.1; have := cnt_of F2.out.1; unfold Tn.cnt at *; omega); rintro e w3 ⟨t3, q3, rfl, f3, g3, b3⟩; have a3 : Aft (w.alloc (.cells en.cells.toArray 26)) w3 := (by (first | exact Aft.next a2 b3 | exact Aft.next a1 b3)); have F3 := Lib.hid (And.intro f3 (And.intro g3 b3)); obtain ⟨_, _, _, _, ⟨z0, z1, z2, z3, z4, z5, z6, z8, z9⟩, ⟨y0, y1, y2, y3, y4, y5⟩, _, _, _, ⟨x0, x1, x2, x3, x4, x5, x6, x8, x9⟩⟩ := HT.out _ a3; clear f3 g3 b3))
  all_goals
    go_wp2
    go_ret
    exact ⟨t3, q3, rfl, by rw [F3.out.1, F1.out.1, F2.out.1]; simp [Tn.flat], F3.out.2.1, (HT.out _ a3).2.2.2.2.2.2.1⟩
end Go.Proofs.Ytociadicjbkjcaa
