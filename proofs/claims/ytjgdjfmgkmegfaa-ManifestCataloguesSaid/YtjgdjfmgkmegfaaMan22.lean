import Derived.Test.YtjgdjfmgkmegfaaMan21
import Derived.Test.YtjgdjfmgkmegfaaBeqm
namespace Go.Proofs.Ytjgdjfmgkmegfaa
open Go.RowKit Go.Maps

theorem CanM.uv {l : List UInt8} {s s' : RSt} {xs : List Int} {v : Nat} {y : Int} (h : CanM l s xs) (hu : uvS l s = (v, s')) (hy : v < 4611686018427387904 → y = (v : Int))
    (hlen : ∀ id ns nx mk cl segs prods ys, manR id ns nx mk cl segs prods = true → numsM id ns nx mk cl segs prods = xs ++ ys → ys ≠ []) : CanM l s' (xs ++ [y]) := by
  intro id ns nx mk cl segs prods hr hl
  obtain ⟨hf, ys, h1, h2⟩ := h id ns nx mk cl segs prods hr hl
  match ys, hlen id ns nx mk cl segs prods ys hr h1 with
  | z :: zs, _ =>
    have hz := numsM_bd hr z (by rw [h1]; simp)
    rw [List.flatMap_cons, uvarI] at h2
    obtain ⟨c1, c2, c3⟩ := uvS_canon hf h2 (by omega)
    have e1 : (uvS l s).1 = v := by rw [hu]
    have e2 : (uvS l s).2 = s' := by rw [hu]
    rw [e1] at c1
    rw [e2] at c2 c3
    refine ⟨c2, zs, ?_, c3⟩
    rw [h1, hy (by omega), show (v : Int) = z by omega]
    simp
theorem w64 (v : Nat) : v < 4611686018427387904 → wrap64 (v : Int) = v := fun h => by unfold wrap64; omega
/-- The lists' lengths of a right manifest that begins so. -/
theorem num_len {v1 v2 v3 v4 v5 : Int} {n1 : Nat} {ss : List Int} (hl : ss.length = n1 ∨ 64 < n1) {id ns nx mk cl : Int} {segs : List Int} {prods : List P3} {ys : List Int} (hr : manR id ns nx mk cl segs prods = true)
    (he : numsM id ns nx mk cl segs prods = ([v1, v2, v3, v4, v5, (n1 : Int)] ++ ss) ++ ys) : ss.length = n1 ∧ ys = (prods.length : Int) :: prods.flatMap flat3 := by
  have h := numsM_6 (a := v1) (b := v2) (c := v3) (d := v4) (e := v5) (ys := (n1 : Int) :: (ss ++ ys)) (by rw [he]; simp)
  simp only [List.cons.injEq] at h
  obtain ⟨h1, h2⟩ := h
  have h64 := (manR_facts hr).2.2.1
  have e : ss.length = n1 := by omega
  obtain ⟨_, h3⟩ := List.append_inj h2 (by omega)
  exact ⟨e, h3⟩
theorem can_np2 {v1 v2 v3 v4 v5 : Int} {n1 : Nat} {ss : List Int} (hl : ss.length = n1 ∨ 64 < n1) : ∀ id ns nx mk cl segs prods ys, manR id ns nx mk cl segs prods = true → numsM id ns nx mk cl segs prods = ([v1, v2, v3, v4, v5, (n1 : Int)] ++ ss) ++ ys → ys ≠ [] := by
  intro id ns nx mk cl segs prods ys hr he hy
  have := (num_len hl hr he).2
  rw [hy] at this; cases this
theorem can_pr2 {v1 v2 v3 v4 v5 : Int} {n1 n2 : Nat} {ss zs : List Int} (hl : ss.length = n1 ∨ 64 < n1) (hz : zs.length < 3 * n2) : ∀ id ns nx mk cl segs prods ys, manR id ns nx mk cl segs prods = true → numsM id ns nx mk cl segs prods = ((([v1, v2, v3, v4, v5, (n1 : Int)] ++ ss) ++ [(n2 : Int)]) ++ zs) ++ ys → ys ≠ [] := by
  intro id ns nx mk cl segs prods ys hr he
  exact can_pr (num_len (v1 := v1) (v2 := v2) (v3 := v3) (v4 := v4) (v5 := v5) hl hr (ys := (n2 : Int) :: (zs ++ ys)) (by rw [he]; simp)).1 hz id ns nx mk cl segs prods ys hr he
theorem prods_can2 {v1 v2 v3 v4 v5 : Int} {n1 n2 k : Nat} {ss : List Int} {l : List UInt8} {st t1 t2 t3 : RSt} {x1 x2 x3 : Nat} {y1 y2 y3 : Int} {ps : List P3} (hk : k < n2) (hl : ss.length = n1 ∨ 64 < n1) (hp : ps.length = k) (h1 : uvS l st = (x1, t1)) (h2 : uvS l t1 = (x2, t2)) (h3 : uvS l t2 = (x3, t3))
    (e1 : x1 < 4611686018427387904 → y1 = (x1 : Int)) (e2 : x2 < 4611686018427387904 → y2 = (x2 : Int)) (e3 : x3 < 4611686018427387904 → y3 = (x3 : Int))
    (h : CanM l st ((([v1, v2, v3, v4, v5, (n1 : Int)] ++ ss) ++ [(n2 : Int)]) ++ ps.flatMap flat3)) : CanM l t3 ((([v1, v2, v3, v4, v5, (n1 : Int)] ++ ss) ++ [(n2 : Int)]) ++ (ps ++ [(y1, y2, y3)]).flatMap flat3) := by
  have hz := flat3_len ps
  have q1 := h.uv h1 e1 (can_pr2 hl (by omega))
  have q2 := q1.uv h2 e2 (by rw [List.append_assoc]; exact can_pr2 hl (by simp only [List.length_append, List.length_cons, List.length_nil, hz]; omega))
  have q3 := q2.uv h3 e3 (by rw [List.append_assoc, List.append_assoc]; exact can_pr2 hl (by simp only [List.length_append, List.length_cons, List.length_nil, hz]; omega))
  simpa [flat3] using q3
/-- Only what was read may be a right manifest of these bytes. -/
theorem ref_only {bs l : List UInt8} {s : RSt} {v1 v2 v3 v4 v5 : Int} {n1 n2 : Nat} {ss : List Int} {ps : List P3} (hc : CanM l s ((([v1, v2, v3, v4, v5, (n1 : Int)] ++ ss) ++ [(n2 : Int)]) ++ ps.flatMap flat3)) (hl : ss.length = n1 ∨ 64 < n1) (hp : ps.length = n2 ∨ 64 < n2) (hb : bs.drop 9 = l) :
    ∀ id' ns' nx' mk' cl' segs' prods', manR id' ns' nx' mk' cl' segs' prods' = true → encM id' ns' nx' mk' cl' segs' prods' = bs → id' = v1 ∧ ns' = v2 ∧ nx' = v3 ∧ mk' = v4 ∧ cl' = v5 ∧ segs' = ss ∧ prods' = ps := by
  intro id' ns' nx' mk' cl' segs' prods' hr he
  have hlb : l = bodyM id' ns' nx' mk' cl' segs' prods' := by
    rw [← hb, ← he, encM, if_pos hr]; rfl
  obtain ⟨_, ys, h1, _⟩ := hc _ _ _ _ _ _ _ hr hlb
  obtain ⟨e1, e2⟩ := num_len (v1 := v1) (v2 := v2) (v3 := v3) (v4 := v4) (v5 := v5) hl hr (ys := (n2 : Int) :: (ps.flatMap flat3 ++ ys)) (by rw [h1]; simp)
  have h64 := (manR_facts hr).2.2.2.1
  simp only [List.cons.injEq] at e2
  rw [numsM_fin e1 (show ps.length = n2 by omega)] at h1
  obtain ⟨a1, a2, a3, a4, a5, a6, a7, _⟩ := numsM_inj h1
  exact ⟨a1, a2, a3, a4, a5, a6, a7⟩

/-- What the document's Decode knows ahead of its manifest. -/
structure RN (w : World) (p : Nat) (l : List UInt8) (s : RSt) (W : World) : Prop where
  rd : RRd W p l s
  below : Below w.heap.size w W
  res : Box W w.heap.size 25 #[.int .i64 0, .int .i64 0, .int .i64 0, .int .i64 0, .int .i64 0, .slice none 0 0, .slice none 0 0]
  ord : w.heap.size < p
section
variable {w W W' : World} {p : Nat} {l : List UInt8} {s s' : RSt}
theorem RN.chg {S : Nat → Prop} (d : RN w p l s W) (hc : Chg S W W') (hS : ∀ k, S k → p < k) : RN w p l s W' := by
  have o1 := d.ord
  exact ⟨d.rd.chg hc hS, d.below.trans (hc.below d.below.size fun k hk => by have := hS k hk; omega), d.res.chg hc fun e => by have := hS _ e; omega, d.ord⟩
theorem RN.next (d : RN w p l s W) (hb : Below W.heap.size W W') : RN w p l s W' := d.chg (Chg.of_below hb fun _ => False) fun _ e => e.elim
theorem RN.step (d : RN w p l s W) (h : SAft p l s' W W') : RN w p l s' W' := by
  have o1 := d.ord
  obtain ⟨h1, hc⟩ := h
  exact ⟨h1, d.below.trans (hc.below d.below.size fun k hk => by omega), d.res.chg hc (by omega), d.ord⟩
end
/-- .. and its manifest: the fields, the two rows. -/
structure RM (w : World) (p mb : Nat) (l : List UInt8) (s : RSt) (v1 v2 v3 v4 v5 : Int) (b1 : Option Addr) (k1 c1 : Nat) (b2 : Option Addr) (k2 c2 : Nat) (ss : List Int) (ps : List P3) (W : World) : Prop where
  rn : RN w p l s W
  mbx : Box W mb 25 #[.int .i64 v1, .int .i64 v2, .int .i64 v3, .int .i64 v4, .int .i64 v5, .slice b1 k1 c1, .slice b2 k2 c2]
  hm : p < mb
  r1 : W.ownsRow (mb + 1) 3 1 (.slice b1 k1 c1) k1 (ss.map (.int .i64))
  r2 : W.ownsRow (mb + 1) 58 3 (.slice b2 k2 c2) k2 (ps.flatMap tri)
  dis : ∀ k, (Value.slice b1 k1 c1).ownBlock = some k → (Value.slice b2 k2 c2).ownBlock ≠ some k
section
variable {w W W' w8 : World} {p mb k1 c1 k2 c2 : Nat} {l : List UInt8} {s s' : RSt} {v1 v2 v3 v4 v5 : Int} {b1 b2 : Option Addr} {ss : List Int} {ps : List P3}
theorem RM.start (d : RN w p l s W) (m : Box W mb 25 #[.int .i64 v1, .int .i64 v2, .int .i64 v3, .int .i64 v4, .int .i64 v5, .slice none 0 0, .slice none 0 0]) (hm : p < mb) : RM w p mb l s v1 v2 v3 v4 v5 none 0 0 none 0 0 [] [] W :=
  ⟨d, m, hm, nil_own _ _ _ _, nil_own _ _ _ _, fun k hk => by cases hk⟩
theorem RM.m5 (d : RM w p mb l s v1 v2 v3 v4 v5 b1 k1 c1 b2 k2 c2 ss ps W) : W.cell? ⟨mb, 5, none⟩ = some (.slice b1 k1 c1) := d.mbx.cell 5
theorem RM.m6 (d : RM w p mb l s v1 v2 v3 v4 v5 b1 k1 c1 b2 k2 c2 ss ps W) : W.cell? ⟨mb, 6, none⟩ = some (.slice b2 k2 c2) := d.mbx.cell 6
theorem RM.next (d : RM w p mb l s v1 v2 v3 v4 v5 b1 k1 c1 b2 k2 c2 ss ps W) (hb : Below W.heap.size W W') : RM w p mb l s v1 v2 v3 v4 v5 b1 k1 c1 b2 k2 c2 ss ps W' :=
  ⟨d.rn.next hb, d.mbx.below hb d.mbx.lt, d.hm, ownsRow_block d.r1 fun k hk => hb.block k (d.r1.lt k hk).2, ownsRow_block d.r2 fun k hk => hb.block k (d.r2.lt k hk).2, d.dis⟩
theorem RM.step (d : RM w p mb l s v1 v2 v3 v4 v5 b1 k1 c1 b2 k2 c2 ss ps W) (h : SAft p l s' W W') : RM w p mb l s' v1 v2 v3 v4 v5 b1 k1 c1 b2 k2 c2 ss ps W' := by
  have o := d.rn.ord
  have hm := d.hm
  exact ⟨d.rn.step h, d.mbx.chg h.2 (by omega), d.hm, ownsRow_block d.r1 fun k hk => h.2.block k (d.r1.lt k hk).2 (by have := (d.r1.lt k hk).1; omega), ownsRow_block d.r2 fun k hk => h.2.block k (d.r2.lt k hk).2 (by have := (d.r2.lt k hk).1; omega), d.dis⟩
/-- A segment is appended, and the slice laid into its field. -/
theorem RM.seg {g cap : Nat} {v : Int} (d : RM w p mb l s v1 v2 v3 v4 v5 b1 k1 c1 b2 k2 c2 ss ps W) (hg : W.grownBy w8 (Value.slice b1 k1 c1).ownBlock) (hr : w8.ownsRow (mb + 1) 3 1 (.slice (some ⟨g, 0, none⟩) (k1 + 1) cap) (k1 + 1) (ss.map (.int .i64) ++ [.int .i64 v]))
    (hw : (Value.slice b1 k1 c1).ownBlock = some g ∨ W.heap.size ≤ g) : RM w p mb l s v1 v2 v3 v4 v5 (some ⟨g, 0, none⟩) (k1 + 1) cap b2 k2 c2 (ss ++ [v]) ps (w8.setCell ⟨mb, 5, none⟩ (.slice (some ⟨g, 0, none⟩) (k1 + 1) cap)) := by
  have hlt : ∀ k, (Value.slice b1 k1 c1).ownBlock = some k → mb + 1 ≤ k := fun k hk => (d.r1.lt k hk).1
  have hm := d.hm
  have q1 : RN w p l s w8 := d.rn.chg (Chg.of_grown hg) fun k hk => by have := hlt k hk.symm; omega
  refine ⟨q1.chg (S := fun k => k = mb) ((Chg.refl (fun k => k = mb) w8).set1 rfl _ _) fun k hk => by omega, ?_, d.hm, ?_, ?_, ?_⟩
  · have := (d.mbx.grown hg fun e => by have := hlt _ e.symm; omega).set_ 5 (.slice (some ⟨g, 0, none⟩) (k1 + 1) cap)
    simpa using this
  · rw [List.map_append]
    exact ownsRow_block hr fun k hk => Below.heap_setCell _ _ _ _ (by show k ≠ mb; have := (hr.lt k hk).1; omega)
  · have h2 : w8.ownsRow (mb + 1) 58 3 (.slice b2 k2 c2) k2 (ps.flatMap tri) := ownsRow_block d.r2 fun k hk => hg.block k (d.r2.lt k hk).2 fun e => d.dis k e.symm hk
    exact ownsRow_block h2 fun k hk => Below.heap_setCell _ _ _ _ (by show k ≠ mb; have := (h2.lt k hk).1; omega)
  · intro k hk
    cases hk
    rcases hw with h | h
    · exact d.dis g h
    · intro e; have h2 : g < W.heap.size := (d.r2.lt g e).2; omega
/-- A producer is appended, and the slice laid into its field. -/
theorem RM.prod {g cap : Nat} {q : P3} (d : RM w p mb l s v1 v2 v3 v4 v5 b1 k1 c1 b2 k2 c2 ss ps W) (hg : W.grownBy w8 (Value.slice b2 k2 c2).ownBlock) (hr : w8.ownsRow (mb + 1) 58 3 (.slice (some ⟨g, 0, none⟩) (k2 + 1) cap) (k2 + 1) (ps.flatMap tri ++ tri q))
    (hw : (Value.slice b2 k2 c2).ownBlock = some g ∨ W.heap.size ≤ g) : RM w p mb l s v1 v2 v3 v4 v5 b1 k1 c1 (some ⟨g, 0, none⟩) (k2 + 1) cap ss (ps ++ [q]) (w8.setCell ⟨mb, 6, none⟩ (.slice (some ⟨g, 0, none⟩) (k2 + 1) cap)) := by
  have hlt : ∀ k, (Value.slice b2 k2 c2).ownBlock = some k → mb + 1 ≤ k := fun k hk => (d.r2.lt k hk).1
  have hm := d.hm
  have q1 : RN w p l s w8 := d.rn.chg (Chg.of_grown hg) fun k hk => by have := hlt k hk.symm; omega
  refine ⟨q1.chg (S := fun k => k = mb) ((Chg.refl (fun k => k = mb) w8).set1 rfl _ _) fun k hk => by omega, ?_, d.hm, ?_, ?_, ?_⟩
  · have := (d.mbx.grown hg fun e => by have := hlt _ e.symm; omega).set_ 6 (.slice (some ⟨g, 0, none⟩) (k2 + 1) cap)
    simpa using this
  · have h2 : w8.ownsRow (mb + 1) 3 1 (.slice b1 k1 c1) k1 (ss.map (.int .i64)) := ownsRow_block d.r1 fun k hk => hg.block k (d.r1.lt k hk).2 fun e => d.dis k hk e.symm
    exact ownsRow_block h2 fun k hk => Below.heap_setCell _ _ _ _ (by show k ≠ mb; have := (h2.lt k hk).1; omega)
  · rw [List.flatMap_append]
    have h3 : (ps.flatMap tri ++ [q].flatMap tri) = ps.flatMap tri ++ tri q := by simp
    rw [h3]
    exact ownsRow_block hr fun k hk => Below.heap_setCell _ _ _ _ (by show k ≠ mb; have := (hr.lt k hk).1; omega)
  · intro k hk e
    have e2 : g = k := by simpa [Value.ownBlock] using e
    subst e2
    rcases hw with h | h
    · exact d.dis _ hk h
    · have h2 : g < W.heap.size := (d.r1.lt _ hk).2
      omega
end
section
variable {w W W' : World} {p mb k1 c1 k2 c2 pb : Nat} {l : List UInt8} {s s' : RSt} {v1 v2 v3 v4 v5 : Int} {b1 b2 : Option Addr} {ss : List Int} {ps : List P3}
theorem RM.set_ (d : RM w p mb l s v1 v2 v3 v4 v5 none 0 0 none 0 0 [] [] W) {u1 u2 u3 u4 u5 : Int} (i : Nat) (u : Value) (h : Box (W.setCell ⟨mb, i, none⟩ u) mb 25 #[.int .i64 u1, .int .i64 u2, .int .i64 u3, .int .i64 u4, .int .i64 u5, .slice none 0 0, .slice none 0 0]) :
    RM w p mb l s u1 u2 u3 u4 u5 none 0 0 none 0 0 [] [] (W.setCell ⟨mb, i, none⟩ u) :=
  RM.start (d.rn.chg (S := fun k => k = mb) ((Chg.refl (fun k => k = mb) W).set1 rfl _ _) fun k hk => by have := d.hm; omega) h d.hm
theorem RM.set0 (d : RM w p mb l s v1 v2 v3 v4 v5 none 0 0 none 0 0 [] [] W) (u : Int) : RM w p mb l s u v2 v3 v4 v5 none 0 0 none 0 0 [] [] (W.setCell ⟨mb, 0, none⟩ (.int .i64 u)) := d.set_ 0 _ (by simpa using d.mbx.set_ 0 (.int .i64 u))
theorem RM.set1 (d : RM w p mb l s v1 v2 v3 v4 v5 none 0 0 none 0 0 [] [] W) (u : Int) : RM w p mb l s v1 u v3 v4 v5 none 0 0 none 0 0 [] [] (W.setCell ⟨mb, 1, none⟩ (.int .i64 u)) := d.set_ 1 _ (by simpa using d.mbx.set_ 1 (.int .i64 u))
theorem RM.set2 (d : RM w p mb l s v1 v2 v3 v4 v5 none 0 0 none 0 0 [] [] W) (u : Int) : RM w p mb l s v1 v2 u v4 v5 none 0 0 none 0 0 [] [] (W.setCell ⟨mb, 2, none⟩ (.int .i64 u)) := d.set_ 2 _ (by simpa using d.mbx.set_ 2 (.int .i64 u))
theorem RM.set3 (d : RM w p mb l s v1 v2 v3 v4 v5 none 0 0 none 0 0 [] [] W) (u : Int) : RM w p mb l s v1 v2 v3 u v5 none 0 0 none 0 0 [] [] (W.setCell ⟨mb, 3, none⟩ (.int .i64 u)) := d.set_ 3 _ (by simpa using d.mbx.set_ 3 (.int .i64 u))
theorem RM.set4 (d : RM w p mb l s v1 v2 v3 v4 v5 none 0 0 none 0 0 [] [] W) (u : Int) : RM w p mb l s v1 v2 v3 v4 u none 0 0 none 0 0 [] [] (W.setCell ⟨mb, 4, none⟩ (.int .i64 u)) := d.set_ 4 _ (by simpa using d.mbx.set_ 4 (.int .i64 u))
/-- .. and one producer in its box. -/
structure RP (w : World) (p mb pb : Nat) (l : List UInt8) (s : RSt) (v1 v2 v3 v4 v5 : Int) (b1 : Option Addr) (k1 c1 : Nat) (b2 : Option Addr) (k2 c2 : Nat) (ss : List Int) (ps : List P3) (x y z : Int) (W : World) : Prop where
  rm : RM w p mb l s v1 v2 v3 v4 v5 b1 k1 c1 b2 k2 c2 ss ps W
  pbx : Box W pb 58 #[.int .i64 x, .int .i64 y, .int .i64 z]
  hp : mb < pb
  f1 : ∀ k, (Value.slice b1 k1 c1).ownBlock = some k → k < pb
  f2 : ∀ k, (Value.slice b2 k2 c2).ownBlock = some k → k < pb
theorem RP.start (d : RM w p mb l s v1 v2 v3 v4 v5 b1 k1 c1 b2 k2 c2 ss ps W) : RP w p mb W.heap.size l s v1 v2 v3 v4 v5 b1 k1 c1 b2 k2 c2 ss ps 0 0 0 (W.alloc (.cells #[.int .i64 0, .int .i64 0, .int .i64 0] 58)) :=
  ⟨d.next (Below.al' _ _), Box.new _ _ _, d.mbx.lt, fun k hk => (d.r1.lt k hk).2, fun k hk => (d.r2.lt k hk).2⟩
theorem RP.step {x y z : Int} (d : RP w p mb pb l s v1 v2 v3 v4 v5 b1 k1 c1 b2 k2 c2 ss ps x y z W) (h : SAft p l s' W W') : RP w p mb pb l s' v1 v2 v3 v4 v5 b1 k1 c1 b2 k2 c2 ss ps x y z W' :=
  ⟨d.rm.step h, d.pbx.chg h.2 (by have := d.hp; have := d.rm.hm; omega), d.hp, d.f1, d.f2⟩
theorem RP.set_ {x y z x' y' z' : Int} (d : RP w p mb pb l s v1 v2 v3 v4 v5 b1 k1 c1 b2 k2 c2 ss ps x y z W) (i : Nat) (u : Value) (h : Box (W.setCell ⟨pb, i, none⟩ u) pb 58 #[.int .i64 x', .int .i64 y', .int .i64 z']) : RP w p mb pb l s v1 v2 v3 v4 v5 b1 k1 c1 b2 k2 c2 ss ps x' y' z' (W.setCell ⟨pb, i, none⟩ u) := by
  have hp := d.hp
  have hm := d.rm.hm
  have hc : Chg (fun k => k = pb) W (W.setCell ⟨pb, i, none⟩ u) := (Chg.refl (fun k => k = pb) W).set1 rfl _ _
  exact ⟨⟨d.rm.rn.chg hc fun k hk => by omega, d.rm.mbx.chg hc (by omega), d.rm.hm, ownsRow_block d.rm.r1 fun k hk => hc.block k (d.rm.r1.lt k hk).2 (by have := d.f1 k hk; omega), ownsRow_block d.rm.r2 fun k hk => hc.block k (d.rm.r2.lt k hk).2 (by have := d.f2 k hk; omega), d.rm.dis⟩, h, d.hp, d.f1, d.f2⟩
theorem RP.set0 {x y z : Int} (d : RP w p mb pb l s v1 v2 v3 v4 v5 b1 k1 c1 b2 k2 c2 ss ps x y z W) (u : Int) : RP w p mb pb l s v1 v2 v3 v4 v5 b1 k1 c1 b2 k2 c2 ss ps u y z (W.setCell ⟨pb, 0, none⟩ (.int .i64 u)) := d.set_ 0 _ (by simpa using d.pbx.set_ 0 (.int .i64 u))
theorem RP.set1 {x y z : Int} (d : RP w p mb pb l s v1 v2 v3 v4 v5 b1 k1 c1 b2 k2 c2 ss ps x y z W) (u : Int) : RP w p mb pb l s v1 v2 v3 v4 v5 b1 k1 c1 b2 k2 c2 ss ps x u z (W.setCell ⟨pb, 1, none⟩ (.int .i64 u)) := d.set_ 1 _ (by simpa using d.pbx.set_ 1 (.int .i64 u))
theorem RP.set2 {x y z : Int} (d : RP w p mb pb l s v1 v2 v3 v4 v5 b1 k1 c1 b2 k2 c2 ss ps x y z W) (u : Int) : RP w p mb pb l s v1 v2 v3 v4 v5 b1 k1 c1 b2 k2 c2 ss ps x y u (W.setCell ⟨pb, 2, none⟩ (.int .i64 u)) := d.set_ 2 _ (by simpa using d.pbx.set_ 2 (.int .i64 u))
end
end Go.Proofs.Ytjgdjfmgkmegfaa
