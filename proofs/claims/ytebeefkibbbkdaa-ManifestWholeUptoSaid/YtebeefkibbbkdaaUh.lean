import Derived.Test.YtebeefkibbbkdaaUg
import Derived.Deep.RegionHeld3
import Derived.Deep.AppendLies
import Derived.Deep.RegionLaw
import Derived.Deep.DeepCutAuto
import Derived.Test.YtebeefkibbbkdaaDrw
import Derived.Test.YtebeefkibbbkdaaUe
import Derived.Deep.RegionWith
namespace Go.Proofs.Ytebeefkibbbkdaa
open Go.RowKit Go.Maps

/-- What Decode answers of the bytes bs. -/
def DMan (bs : List UInt8) (w w' : World) (e : Ending) : Prop :=
  (∃ (id ns nx mk cl : Int) (segs : List Int) (prods : List P3) (b1 : Option Addr) (c1 : Nat) (b2 : Option Addr) (c2 : Nat), manR id ns nx mk cl segs prods = true ∧ encM id ns nx mk cl segs prods = bs ∧
    (∀ id' ns' nx' mk' cl' segs' prods', manR id' ns' nx' mk' cl' segs' prods' = true → encM id' ns' nx' mk' cl' segs' prods' = bs → id' = id ∧ ns' = ns ∧ nx' = nx ∧ mk' = mk ∧ cl' = cl ∧ segs' = segs ∧ prods' = prods) ∧
    e = .returned (.tuple #[manV id ns nx mk cl (.slice b1 segs.length c1) (.slice b2 prods.length c2), .int .i64 0]) ∧
    w'.ownsRow w.heap.size 3 1 (.slice b1 segs.length c1) segs.length (segs.map (.int .i64)) ∧ w'.ownsRow w.heap.size 120 3 (.slice b2 prods.length c2) prods.length (prods.flatMap tri) ∧
    (∀ k, (Value.slice b1 segs.length c1).ownBlock = some k → (Value.slice b2 prods.length c2).ownBlock ≠ some k)) ∨
  ((∀ id ns nx mk cl segs prods, manR id ns nx mk cl segs prods = true → encM id ns nx mk cl segs prods ≠ bs) ∧
    e = .returned (.tuple #[manV 0 0 0 0 0 (.slice none 0 0) (.slice none 0 0), .int .i64 72]))
theorem nums_bytes : ∀ (l : List Int), (l.flatMap uvarI).length ≤ 10 * l.length
  | [] => by simp
  | x :: l => by
    have h := nums_bytes l
    have := uvar_le x.toNat
    simp only [List.flatMap_cons, List.length_append, List.length_cons, uvarI]
    omega
theorem bodyM_len {id ns nx mk cl : Int} {segs : List Int} {prods : List P3} (h : manR id ns nx mk cl segs prods = true) : (bodyM id ns nx mk cl segs prods).length ≤ 2630 := by
  obtain ⟨_, _, fs, fp, _⟩ := manR_facts h
  have h1 := nums_bytes (numsM id ns nx mk cl segs prods)
  rw [numsM_len] at h1
  rw [bodyM_nums]
  omega
theorem octUnwrapYes (mark : UInt8) (A : Option Addr) (n c : Nat) (bs l : List UInt8) (w : World) (hb : bs = wrapB mark l) (hl : l.length < 4294967296) (hA : Rd w w.heap.size A (bvW bs)) (hn : bs.length = n) (hnc : n ≤ c) (hmx : n ≤ 140737488355000) :
    Calls Try.prog 71 #[.int .u8 mark.toNat, .slice A n c] w fun e w' => ∃ b c, e = .returned (.tuple #[.slice b l.length c, .bool true]) ∧ Rd w' w'.heap.size b (bvW l) ∧ Below w.heap.size w w' :=
  (octUnwrap mark A n c bs w hA hn hnc hmx).mono fun e w' ⟨h, hw⟩ => by
    rcases h with ⟨body, b, c, h1, _, h3, h4⟩ | ⟨h1, _⟩
    · obtain rfl := wrapB_inj (hb.symm.trans h1)
      exact ⟨b, c, h3, h4, hw⟩
    · exact absurd hb (h1 l hl)
theorem octUnwrapNo (mark : UInt8) (A : Option Addr) (n c : Nat) (bs : List UInt8) (w : World) (hb : ∀ body : List UInt8, body.length < 4294967296 → bs ≠ wrapB mark body) (hA : Rd w w.heap.size A (bvW bs)) (hn : bs.length = n) (hnc : n ≤ c) (hmx : n ≤ 140737488355000) :
    Calls Try.prog 71 #[.int .u8 mark.toNat, .slice A n c] w fun e w' => ∃ v, e = .returned (.tuple #[v, .bool false]) ∧ Below w.heap.size w w' :=
  (octUnwrap mark A n c bs w hA hn hnc hmx).mono fun e w' ⟨h, hw⟩ => by
    rcases h with ⟨body, b, c, h1, h2, _⟩ | ⟨_, v, h3⟩
    · exact absurd h1 (hb body h2)
    · exact ⟨v, h3, hw⟩

/-- What Decode knows ahead of its manifest: the reader, the box of it, the answer's place. -/
structure DN (w : World) (p nb : Nat) (l : List UInt8) (s : RSt) (W : World) : Prop where
  rd : ORd W p l s
  below : Below w.heap.size w W
  res : Box W w.heap.size 61 #[.int .i64 0, .int .i64 0, .int .i64 0, .int .i64 0, .int .i64 0, .slice none 0 0, .slice none 0 0]
  nbx : Box W nb 127 #[.pointer (some ⟨p, 0, none⟩)]
  ord : w.heap.size < p ∧ p < nb
section
variable {w W W' : World} {p nb : Nat} {l : List UInt8} {s s' : RSt}
theorem DN.chg {S : Nat → Prop} (d : DN w p nb l s W) (hc : Chg S W W') (hS : ∀ k, S k → nb < k) : DN w p nb l s W' := by
  obtain ⟨o1, o2⟩ := d.ord
  exact ⟨d.rd.chg hc fun k hk => by have := hS k hk; omega, d.below.trans (hc.below d.below.size fun k hk => by have := hS k hk; omega), d.res.chg hc fun e => by have := hS _ e; omega, d.nbx.chg hc fun e => by have := hS _ e; omega, d.ord⟩
theorem DN.next (d : DN w p nb l s W) (hb : Below W.heap.size W W') : DN w p nb l s W' := d.chg (Chg.of_below hb fun _ => False) fun _ e => e.elim
theorem DN.ncell (d : DN w p nb l s W) : W.cell? ⟨nb, 0, none⟩ = some (.pointer (some ⟨p, 0, none⟩)) := d.nbx.cell 0
theorem DN.step (d : DN w p nb l s W) (h : RAft p l s' W W') : DN w p nb l s' W' := by
  obtain ⟨o1, o2⟩ := d.ord
  obtain ⟨h1, hc⟩ := h
  exact ⟨h1, d.below.trans (hc.below d.below.size fun k hk => by omega), d.res.chg hc (by omega), d.nbx.chg hc (by omega), d.ord⟩
end

theorem below_drew1 (W : World) : Below W.heap.size W W.drew := ⟨rfl, rfl, rfl, Nat.le_refl _, fun _ _ => rfl⟩
theorem boxAt (W : World) (t : TypeId) (ar : Array Value) {k : Nat} (h : W.heap.size = k) : Box (W.alloc (.cells ar t)) k t ar := by subst h; exact Box.new W t ar
theorem box7 {W : World} {mb : Nat} {t : TypeId} {a0 a1 a2 a3 a4 a5 a6 : Value} (h : Box W mb t #[a0, a1, a2, a3, a4, a5, a6]) (b0 b1 b2 b3 b4 b5 b6 : Value) :
    Box (((((((W.setCell ⟨mb, 0, none⟩ b0).setCell ⟨mb, 1, none⟩ b1).setCell ⟨mb, 2, none⟩ b2).setCell ⟨mb, 3, none⟩ b3).setCell ⟨mb, 4, none⟩ b4).setCell ⟨mb, 5, none⟩ b5).setCell ⟨mb, 6, none⟩ b6) mb t #[b0, b1, b2, b3, b4, b5, b6] := by
  simpa using ((((((h.set_ 0 b0).set_ 1 b1).set_ 2 b2).set_ 3 b3).set_ 4 b4).set_ 5 b5).set_ 6 b6
theorem DN.set7 {w W : World} {p nb mb : Nat} {l : List UInt8} {s : RSt} (d : DN w p nb l s W) (hm : nb < mb) (b0 b1 b2 b3 b4 b5 b6 : Value) :
    DN w p nb l s (((((((W.setCell ⟨mb, 0, none⟩ b0).setCell ⟨mb, 1, none⟩ b1).setCell ⟨mb, 2, none⟩ b2).setCell ⟨mb, 3, none⟩ b3).setCell ⟨mb, 4, none⟩ b4).setCell ⟨mb, 5, none⟩ b5).setCell ⟨mb, 6, none⟩ b6) :=
  d.chg (S := fun k => k = mb) (((((((Chg.refl (fun k => k = mb) W).set1 rfl _ _).set1 rfl _ _).set1 rfl _ _).set1 rfl _ _).set1 rfl _ _).set1 rfl _ _ |>.set1 rfl _ _) fun k hk => by subst hk; exact hm

/-- .. and its manifest: the fields, the two rows. -/
structure DMW (w : World) (p nb mb : Nat) (l : List UInt8) (s : RSt) (v1 v2 v3 v4 v5 : Int) (b1 : Option Addr) (k1 c1 : Nat) (b2 : Option Addr) (k2 c2 : Nat) (ss : List Int) (ps : List P3) (W : World) : Prop where
  dn : DN w p nb l s W
  mbx : Box W mb 61 #[.int .i64 v1, .int .i64 v2, .int .i64 v3, .int .i64 v4, .int .i64 v5, .slice b1 k1 c1, .slice b2 k2 c2]
  hm : nb < mb
  r1 : W.ownsRow (mb + 1) 3 1 (.slice b1 k1 c1) k1 (ss.map (.int .i64))
  r2 : W.ownsRow (mb + 1) 120 3 (.slice b2 k2 c2) k2 (ps.flatMap tri)
  dis : ∀ k, (Value.slice b1 k1 c1).ownBlock = some k → (Value.slice b2 k2 c2).ownBlock ≠ some k
section
variable {w W W' w8 : World} {p nb mb k1 c1 k2 c2 : Nat} {l : List UInt8} {s s' : RSt} {v1 v2 v3 v4 v5 : Int} {b1 b2 : Option Addr} {ss : List Int} {ps : List P3}
theorem DMW.start (d : DN w p nb l s W) (m : Box W mb 61 #[.int .i64 v1, .int .i64 v2, .int .i64 v3, .int .i64 v4, .int .i64 v5, .slice none 0 0, .slice none 0 0]) (hm : nb < mb) : DMW w p nb mb l s v1 v2 v3 v4 v5 none 0 0 none 0 0 [] [] W :=
  ⟨d, m, hm, nil_ownW _ _ _ _, nil_ownW _ _ _ _, fun k hk => by cases hk⟩
theorem DMW.m5 (d : DMW w p nb mb l s v1 v2 v3 v4 v5 b1 k1 c1 b2 k2 c2 ss ps W) : W.cell? ⟨mb, 5, none⟩ = some (.slice b1 k1 c1) := d.mbx.cell 5
theorem DMW.m6 (d : DMW w p nb mb l s v1 v2 v3 v4 v5 b1 k1 c1 b2 k2 c2 ss ps W) : W.cell? ⟨mb, 6, none⟩ = some (.slice b2 k2 c2) := d.mbx.cell 6
theorem DMW.next (d : DMW w p nb mb l s v1 v2 v3 v4 v5 b1 k1 c1 b2 k2 c2 ss ps W) (hb : Below W.heap.size W W') : DMW w p nb mb l s v1 v2 v3 v4 v5 b1 k1 c1 b2 k2 c2 ss ps W' :=
  ⟨d.dn.next hb, d.mbx.below hb d.mbx.lt, d.hm, ownsRow_block d.r1 fun k hk => hb.block k (d.r1.lt k hk).2, ownsRow_block d.r2 fun k hk => hb.block k (d.r2.lt k hk).2, d.dis⟩
theorem DMW.step (d : DMW w p nb mb l s v1 v2 v3 v4 v5 b1 k1 c1 b2 k2 c2 ss ps W) (h : RAft p l s' W W') : DMW w p nb mb l s' v1 v2 v3 v4 v5 b1 k1 c1 b2 k2 c2 ss ps W' := by
  have o := d.dn.ord
  have hm := d.hm
  exact ⟨d.dn.step h, d.mbx.chg h.2 (by omega), d.hm, ownsRow_block d.r1 fun k hk => h.2.block k (d.r1.lt k hk).2 (by have := (d.r1.lt k hk).1; omega), ownsRow_block d.r2 fun k hk => h.2.block k (d.r2.lt k hk).2 (by have := (d.r2.lt k hk).1; omega), d.dis⟩
/-- A segment is appended, and the slice laid into its field. -/
theorem DMW.seg {g cap : Nat} {v : Int} (d : DMW w p nb mb l s v1 v2 v3 v4 v5 b1 k1 c1 b2 k2 c2 ss ps W) (hg : W.grownBy w8 (Value.slice b1 k1 c1).ownBlock) (hr : w8.ownsRow (mb + 1) 3 1 (.slice (some ⟨g, 0, none⟩) (k1 + 1) cap) (k1 + 1) (ss.map (.int .i64) ++ [.int .i64 v]))
    (hw : (Value.slice b1 k1 c1).ownBlock = some g ∨ W.heap.size ≤ g) : DMW w p nb mb l s v1 v2 v3 v4 v5 (some ⟨g, 0, none⟩) (k1 + 1) cap b2 k2 c2 (ss ++ [v]) ps (w8.setCell ⟨mb, 5, none⟩ (.slice (some ⟨g, 0, none⟩) (k1 + 1) cap)) := by
  have hlt : ∀ k, (Value.slice b1 k1 c1).ownBlock = some k → mb + 1 ≤ k := fun k hk => (d.r1.lt k hk).1
  have hm := d.hm
  have q1 : DN w p nb l s w8 := d.dn.chg (Chg.of_grown hg) fun k hk => by have := hlt k hk.symm; omega
  refine ⟨q1.chg (S := fun k => k = mb) ((Chg.refl (fun k => k = mb) w8).set1 rfl _ _) fun k hk => by omega, ?_, d.hm, ?_, ?_, ?_⟩
  · have := (d.mbx.grown hg fun e => by have := hlt _ e.symm; omega).set_ 5 (.slice (some ⟨g, 0, none⟩) (k1 + 1) cap)
    simpa using this
  · rw [List.map_append]
    exact ownsRow_block hr fun k hk => Below.heap_setCell _ _ _ _ (by show k ≠ mb; have := (hr.lt k hk).1; omega)
  · have h2 : w8.ownsRow (mb + 1) 120 3 (.slice b2 k2 c2) k2 (ps.flatMap tri) := ownsRow_block d.r2 fun k hk => hg.block k (d.r2.lt k hk).2 fun e => d.dis k e.symm hk
    exact ownsRow_block h2 fun k hk => Below.heap_setCell _ _ _ _ (by show k ≠ mb; have := (h2.lt k hk).1; omega)
  · intro k hk
    cases hk
    rcases hw with h | h
    · exact d.dis g h
    · intro e; have h2 : g < W.heap.size := (d.r2.lt g e).2; omega
/-- A producer is appended, and the slice laid into its field. -/
theorem DMW.prod {g cap : Nat} {q : P3} (d : DMW w p nb mb l s v1 v2 v3 v4 v5 b1 k1 c1 b2 k2 c2 ss ps W) (hg : W.grownBy w8 (Value.slice b2 k2 c2).ownBlock) (hr : w8.ownsRow (mb + 1) 120 3 (.slice (some ⟨g, 0, none⟩) (k2 + 1) cap) (k2 + 1) (ps.flatMap tri ++ tri q))
    (hw : (Value.slice b2 k2 c2).ownBlock = some g ∨ W.heap.size ≤ g) : DMW w p nb mb l s v1 v2 v3 v4 v5 b1 k1 c1 (some ⟨g, 0, none⟩) (k2 + 1) cap ss (ps ++ [q]) (w8.setCell ⟨mb, 6, none⟩ (.slice (some ⟨g, 0, none⟩) (k2 + 1) cap)) := by
  have hlt : ∀ k, (Value.slice b2 k2 c2).ownBlock = some k → mb + 1 ≤ k := fun k hk => (d.r2.lt k hk).1
  have hm := d.hm
  have q1 : DN w p nb l s w8 := d.dn.chg (Chg.of_grown hg) fun k hk => by have := hlt k hk.symm; omega
  refine ⟨q1.chg (S := fun k => k = mb) ((Chg.refl (fun k => k = mb) w8).set1 rfl _ _) fun k hk => by omega, ?_, d.hm, ?_, ?_, ?_⟩
  · have := (d.mbx.grown hg fun e => by have := hlt _ e.symm; omega).set_ 6 (.slice (some ⟨g, 0, none⟩) (k2 + 1) cap)
    simpa using this
  · have h2 : w8.ownsRow (mb + 1) 3 1 (.slice b1 k1 c1) k1 (ss.map (.int .i64)) := ownsRow_block d.r1 fun k hk => hg.block k (d.r1.lt k hk).2 fun e => d.dis k hk e.symm
    exact ownsRow_block h2 fun k hk => Below.heap_setCell _ _ _ _ (by show k ≠ mb; have := (h2.lt k hk).1; omega)
  · rw [List.flatMap_append]
    have h3 : (ps.flatMap tri ++ [q].flatMap tri) = ps.flatMap tri ++ tri q := by simp
    rw [h3]
    exact ownsRow_block hr fun k hk => Below.heap_setCell _ _ _ _ (by show k ≠ mb; have := (hr.lt k hk).1; omega)
  · intro k hk e
    have e2 : g = k := by simpa [Value.ownBlock] using e
    subst e2
    rcases hw with h | h
    · exact d.dis _ hk h
    · have h2 : g < W.heap.size := (d.r1.lt _ hk).2
      omega
end
theorem numsM_6 {id ns nx mk cl a b c d e : Int} {segs : List Int} {prods : List P3} {ys : List Int} (h : numsM id ns nx mk cl segs prods = [a, b, c, d, e] ++ ys) : ys = (segs.length : Int) :: (segs ++ ((prods.length : Int) :: prods.flatMap flat3)) := by
  simp only [numsM, List.cons_append, List.nil_append, List.cons.injEq] at h
  exact h.2.2.2.2.2.symm
theorem can_seg {v1 v2 v3 v4 v5 : Int} {n1 k : Nat} {ss : List Int} (hk : k < n1) (hl : ss.length = k) : ∀ id ns nx mk cl segs prods ys, manR id ns nx mk cl segs prods = true → numsM id ns nx mk cl segs prods = ([v1, v2, v3, v4, v5, (n1 : Int)] ++ ss) ++ ys → ys ≠ [] := by
  intro id ns nx mk cl segs prods ys _ he hy
  subst hy
  have h := numsM_6 (a := v1) (b := v2) (c := v3) (d := v4) (e := v5) (ys := (n1 : Int) :: (ss ++ [])) (by rw [he]; simp)
  have h2 := congrArg List.length h
  simp only [List.cons.injEq] at h
  have h3 := h.1
  simp at h2
  omega
theorem can6 {l : List UInt8} {s1 s2 s3 s4 s5 s6 : RSt} {v1 v2 v3 v4 v5 n1 : Nat} (h1 : nxS l ⟨0, false⟩ = (v1, s1)) (h2 : nxS l s1 = (v2, s2)) (h3 : nxS l s2 = (v3, s3)) (h4 : nxS l s3 = (v4, s4)) (h5 : nxS l s4 = (v5, s5)) (h6 : cnS 64 l s5 = (n1, s6)) :
    CanM l s6 ([(v1 : Int), v2, v3, v4, v5, n1] ++ []) := by
  have hl : ∀ xs : List Int, xs.length < 7 → ∀ id ns nx mk cl segs prods ys, manR id ns nx mk cl segs prods = true → numsM id ns nx mk cl segs prods = xs ++ ys → ys ≠ [] := by
    intro xs hx id ns nx mk cl segs prods ys _ he hy
    have := congrArg List.length he
    rw [numsM_len, List.length_append, hy] at this
    simp at this; omega
  have c5 := ((((((CanM.start l).next h1 (hl _ (by decide))).next h2 (hl _ (by simp))).next h3 (hl _ (by simp))).next h4 (hl _ (by simp))).next h5 (hl _ (by simp)))
  refine c5.count h6 fun id ns nx mk cl segs prods ys hr he => ?_
  have e := numsM_6 he
  exact ⟨_, _, e, by have := (manR_facts hr).2.2.1; omega⟩

/-- Every number of it is small. -/
def Sm (ss : List Int) : Prop := ∀ x ∈ ss, 0 ≤ x ∧ x < 4611686018427387904
theorem Sm.nil : Sm [] := fun x h => by cases h
theorem Sm.next {ss : List Int} {l : List UInt8} {s s' : RSt} {v : Nat} (h : Sm ss) (hu : nxS l s = (v, s')) : Sm (ss ++ [(v : Int)]) := fun x hx => by
  have := nxS_lt l s
  rw [hu] at this
  simp only [List.mem_append, List.mem_singleton] at hx
  rcases hx with hx | rfl
  · exact h x hx
  · exact ⟨by omega, by simp only at this; omega⟩
theorem Sm.wf {ss : List Int} (h : Sm ss) : ∀ s ∈ ss, (Lit.int .i64 s).wf = true := fun x hx => by
  obtain ⟨h1, h2⟩ := h x hx
  exact WalkArith.wf_i64 ⟨by omega, by omega⟩
theorem ownsRow_low {w : World} {base base' : Nat} {e : TypeId} {size : Nat} {v : Value} {n : Nat} {xs : List Value} (h : w.ownsRow base e size v n xs) (hb : base' ≤ base) : w.ownsRow base' e size v n xs :=
  ⟨h.1, h.2.imp id fun ⟨g, cap, cur, a, b, r⟩ => ⟨g, cap, cur, a, Nat.le_trans hb b, r⟩⟩
theorem dman_yes {bs l : List UInt8} {w W W' : World} {p nb mb k1 c1 k2 c2 : Nat} {st : RSt} {v1 v2 v3 v4 v5 : Int} {b1 b2 : Option Addr} {ss : List Int} {ps : List P3} (d : DMW w p nb mb l st v1 v2 v3 v4 v5 b1 k1 c1 b2 k2 c2 ss ps W)
    (hs : ss.length = k1) (hp : ps.length = k2) (hco : ConM l st (numsM v1 v2 v3 v4 v5 ss ps)) (hca : CanM l st (numsM v1 v2 v3 v4 v5 ss ps)) (hle : st.at_ ≤ l.length) (hE : st.fl = false ∧ st.at_ = l.length) (hr : manR v1 v2 v3 v4 v5 ss ps = true) (hbl : bs = wrapB 179 l)
    (hc : Chg (fun k => k = w.heap.size) W W') : DMan bs w W' (.returned (.tuple #[manV v1 v2 v3 v4 v5 (.slice b1 k1 c1) (.slice b2 k2 c2), .int .i64 0])) := by
  have o := d.dn.ord
  have hm := d.hm
  subst hs; subst hp
  refine .inl ⟨v1, v2, v3, v4, v5, ss, ps, b1, c1, b2, c2, hr, ?_, ?_, rfl, ?_, ?_, d.dis⟩
  · rw [hbl]; exact man_end hco hE.1 hE.2 hr
  · intro id' ns' nx' mk' cl' segs' prods' hr' he'
    exact (man_only hca hle hr' (he'.trans hbl)).1
  · exact ownsRow_low (ownsRow_block d.r1 fun k hk => hc.block k (d.r1.lt k hk).2 (by have := (d.r1.lt k hk).1; omega)) (by omega)
  · exact ownsRow_low (ownsRow_block d.r2 fun k hk => hc.block k (d.r2.lt k hk).2 (by have := (d.r2.lt k hk).1; omega)) (by omega)
theorem chg7 (W : World) (B : Nat) (b0 b1 b2 b3 b4 b5 b6 : Value) : Chg (fun k => k = B) W (((((((W.setCell ⟨B, 0, none⟩ b0).setCell ⟨B, 1, none⟩ b1).setCell ⟨B, 2, none⟩ b2).setCell ⟨B, 3, none⟩ b3).setCell ⟨B, 4, none⟩ b4).setCell ⟨B, 5, none⟩ b5).setCell ⟨B, 6, none⟩ b6) :=
  (((((((Chg.refl (fun k => k = B) W).set1 rfl _ _).set1 rfl _ _).set1 rfl _ _).set1 rfl _ _).set1 rfl _ _).set1 rfl _ _ |>.set1 rfl _ _)
theorem can_np {v1 v2 v3 v4 v5 : Int} {n1 : Nat} {ss : List Int} (hl : ss.length = n1) : ∀ id ns nx mk cl segs prods ys, manR id ns nx mk cl segs prods = true → numsM id ns nx mk cl segs prods = ([v1, v2, v3, v4, v5, (n1 : Int)] ++ ss) ++ ys → ∃ y zs, ys = y :: zs ∧ y ≤ (64 : Int) := by
  intro id ns nx mk cl segs prods ys hr he
  have h := numsM_6 (a := v1) (b := v2) (c := v3) (d := v4) (e := v5) (ys := (n1 : Int) :: (ss ++ ys)) (by rw [he]; simp)
  simp only [List.cons.injEq] at h
  obtain ⟨h1, h2⟩ := h
  obtain ⟨_, h3⟩ := List.append_inj h2 (by omega)
  exact ⟨_, _, h3, by have := (manR_facts hr).2.2.2.1; omega⟩
theorem can_pr {v1 v2 v3 v4 v5 : Int} {n1 n2 : Nat} {ss zs : List Int} (hl : ss.length = n1) (hz : zs.length < 3 * n2) : ∀ id ns nx mk cl segs prods ys, manR id ns nx mk cl segs prods = true → numsM id ns nx mk cl segs prods = ((([v1, v2, v3, v4, v5, (n1 : Int)] ++ ss) ++ [(n2 : Int)]) ++ zs) ++ ys → ys ≠ [] := by
  intro id ns nx mk cl segs prods ys hr he hy
  subst hy
  have h := numsM_6 (a := v1) (b := v2) (c := v3) (d := v4) (e := v5) (ys := (n1 : Int) :: (ss ++ ((n2 : Int) :: zs))) (by rw [he]; simp)
  simp only [List.cons.injEq] at h
  obtain ⟨h1, h2⟩ := h
  obtain ⟨_, h3⟩ := List.append_inj h2 (by omega)
  simp only [List.cons.injEq] at h3
  have h4 := congrArg List.length h3.2
  rw [flat3_len] at h4
  omega
theorem prods_con {l : List UInt8} {st t1 t2 t3 : RSt} {x1 x2 x3 : Nat} {zs : List Int} {ps : List P3} (h1 : nxS l st = (x1, t1)) (h2 : nxS l t1 = (x2, t2)) (h3 : nxS l t2 = (x3, t3)) (h : ConM l st (zs ++ ps.flatMap flat3)) : ConM l t3 (zs ++ (ps ++ [((x1 : Int), (x2 : Int), (x3 : Int))]).flatMap flat3) := by
  have := ((h.next h1).next h2).next h3
  simpa [flat3] using this
theorem prods_can {v1 v2 v3 v4 v5 : Int} {n1 n2 k : Nat} {ss : List Int} {l : List UInt8} {st t1 t2 t3 : RSt} {x1 x2 x3 : Nat} {ps : List P3} (hk : k < n2) (hl : ss.length = n1) (hp : ps.length = k) (h1 : nxS l st = (x1, t1)) (h2 : nxS l t1 = (x2, t2)) (h3 : nxS l t2 = (x3, t3))
    (h : CanM l st ((([v1, v2, v3, v4, v5, (n1 : Int)] ++ ss) ++ [(n2 : Int)]) ++ ps.flatMap flat3)) : CanM l t3 ((([v1, v2, v3, v4, v5, (n1 : Int)] ++ ss) ++ [(n2 : Int)]) ++ (ps ++ [((x1 : Int), (x2 : Int), (x3 : Int))]).flatMap flat3) := by
  have hz := flat3_len ps
  have q1 := h.next h1 (can_pr hl (by omega))
  have q2 := q1.next h2 (by rw [List.append_assoc]; exact can_pr hl (by simp only [List.length_append, List.length_cons, List.length_nil, hz]; omega))
  have q3 := q2.next h3 (by rw [List.append_assoc, List.append_assoc]; exact can_pr hl (by simp only [List.length_append, List.length_cons, List.length_nil, hz]; omega))
  simpa [flat3] using q3
theorem numsM_fin {v1 v2 v3 v4 v5 : Int} {n1 n2 : Nat} {ss : List Int} {ps : List P3} (hl : ss.length = n1) (hp : ps.length = n2) : (([v1, v2, v3, v4, v5, (n1 : Int)] ++ ss) ++ [(n2 : Int)]) ++ ps.flatMap flat3 = numsM v1 v2 v3 v4 v5 ss ps := by
  subst hl; subst hp
  simp [numsM]

set_option maxRecDepth 100000 in
set_option maxHeartbeats 16000000 in
theorem manDecode (A : Option Addr) (n c : Nat) (bs : List UInt8) (w : World) (hA : Rd w w.heap.size A (bvW bs)) (hn : bs.length = n) (hnc : n ≤ c) (hmx : n ≤ 140737488355000) :
    Calls Try.prog 23 #[.slice A n c] w fun e w' => DMan bs w w' e ∧ Below w.heap.size w w' := by
  have hb0 : Below w.heap.size w (w.alloc (.cells #[.int .i64 0, .int .i64 0, .int .i64 0, .int .i64 0, .int .i64 0, .slice none 0 0, .slice none 0 0] 61)) := (Below.refl _ _).alloc (Nat.le_refl _) _
  have HB := Lib.hid hb0
  have HA := Lib.hid (hA.below hb0)
  have Hn := Lib.hid hn
  have HR0 := Lib.hid (Box.new w 61 #[.int .i64 0, .int .i64 0, .int .i64 0, .int .i64 0, .int .i64 0, .slice none 0 0, .slice none 0 0])
  by_cases hx : ∃ l : List UInt8, l.length < 4294967296 ∧ bs = wrapB 179 l
  case neg =>
    have HN : Hid (∀ body : List UInt8, body.length < 4294967296 → bs ≠ wrapB 179 body) := fun body h1 h2 => hx ⟨body, h1, h2⟩
    have HNo : Hid (∀ id ns nx mk cl segs prods, manR id ns nx mk cl segs prods = true → encM id ns nx mk cl segs prods ≠ bs) := fun id ns nx mk cl segs prods hr he => by
      have h1 := bodyM_len hr
      rw [encM, if_pos hr] at he
      exact HN.out _ (by omega) he.symm
    clear hx hA hn hb0
    go_enter Try.func23, Try.ntmps23
    go_wp2_with (go_at_call 71; refine (octUnwrapNo 179 A n c bs _ HN.out (HA.out.mono (by simp)) Hn.out hnc hmx).mono ?_; rintro e w1 ⟨v, rfl, hb1⟩; have hz := HR0.out.below hb1 (by simp); have hzc := hz.cell; have hzl := hz.lt; have hzf := hz.free; have HB1 := Lib.hid (HB.out.trans (hb1.mono (by simp))); clear hb1 hz)
    refine bodyPost_ret (v := .tuple #[manV 0 0 0 0 0 (.slice none 0 0) (.slice none 0 0), .int .i64 72]) ?_ rfl ?_
    · simp [results, Try.results23, go_sem, hzc]
    refine ⟨.inr ⟨HNo.out, rfl⟩, ?_⟩
    repeat (first | with_reducible exact HB1.out | refine Below.setCell ?_ (by simp) _)
  obtain ⟨i0, hi0, hz0, hs0, hy0⟩ := info_parts info_int
  obtain ⟨i1, hi1, hz1, hs1, hy1⟩ := info_parts info_prod
  obtain ⟨l, hl32, hbl⟩ := hx
  have Hbl := Lib.hid hbl
  have hlx : l.length ≤ 4294967296 := by omega
  have Hlx : Hid (l.length ≤ 140737488355328) := by show _ ≤ _; omega
  clear hbl hA hn hb0
  rcases h1 : nxS l ⟨0, false⟩ with ⟨v1, s1⟩
  rcases h2 : nxS l s1 with ⟨v2, s2⟩
  rcases h3 : nxS l s2 with ⟨v3, s3⟩
  rcases h4 : nxS l s3 with ⟨v4, s4⟩
  rcases h5 : nxS l s4 with ⟨v5, s5⟩
  rcases h6 : cnS 64 l s5 with ⟨n1, s6⟩
  have hn1 : n1 ≤ 64 := by have := cnS_le 64 (l := l) (s := s5); rw [h6] at this; exact this
  have V1 := Lib.hid h1
  have V2 := Lib.hid h2
  have V3 := Lib.hid h3
  have V4 := Lib.hid h4
  have V5 := Lib.hid h5
  have V6 := Lib.hid h6
  clear h1 h2 h3 h4 h5 h6
  go_enter Try.func23, Try.ntmps23
  go_upto_region 5 with (first
    | (go_at_call 71; refine (octUnwrapYes 179 A n c bs l _ Hbl.out hl32 (HA.out.mono (by simp)) Hn.out hnc hmx).mono ?_; rintro e w1 ⟨bb, cb, rfl, hrd, hb1⟩; have K1 := Lib.hid (And.intro hrd (And.intro (HB.out.trans (hb1.mono (by simp))) (HR0.out.below hb1 (by simp)))); clear hrd hb1)
    | (go_at_call 72; refine (octNewR bb l.length cb l _ K1.out.1 rfl Hlx.out).mono ?_; rintro e w2 ⟨p, rfl, hR, hp, hb2⟩; have hwp := K1.out.2.2.lt; have hpl := hR.lt; have D0 := Lib.hid (show DN w p w2.heap.size l ⟨0, false⟩ (w2.alloc (.cells #[.pointer (some ⟨p, 0, none⟩)] 127)) from ⟨hR.below (Below.al' _ _), (K1.out.2.1.trans (hb2.mono K1.out.2.1.size)).alloc (Nat.le_trans K1.out.2.1.size hb2.size) _, (K1.out.2.2.below hb2 hwp).alloc _, Box.new _ _ _, by omega, hpl⟩); clear hR hb2 K1))
  go_cut [7] (fun s7 wx => ∃ mb : Nat, s7 = .pointer (some ⟨mb, 0, none⟩) ∧ DN w p w2.heap.size l s5 wx ∧ Box wx mb 61 #[.int .i64 v1, .int .i64 v2, .int .i64 v3, .int .i64 v4, .int .i64 v5, .slice none 0 0, .slice none 0 0] ∧ w2.heap.size < mb)
  case first =>
    have R0 := D0
    have D0' := Lib.hid (R0.out.next (below_drew1 _))
    clear D0
    have D0 := D0'
    clear D0'
    go_region_held3 (fun w' => w'.cell? ⟨w2.heap.size, 0, none⟩ = some (.pointer (some ⟨p, 0, none⟩)))
      (first | with_reducible exact D0.out.ncell | with_reducible exact ((R0.out.next (Below.al' _ _)).next (below_drew1 _)).ncell | with_reducible exact D1.out.ncell | with_reducible exact (D1.out.next (Below.al' _ _)).ncell | with_reducible exact E1.out.1.ncell | with_reducible exact D2.out.ncell | with_reducible exact (D2.out.next (Below.al' _ _)).ncell | with_reducible exact E2.out.1.ncell | with_reducible exact D3.out.ncell | with_reducible exact (D3.out.next (Below.al' _ _)).ncell | with_reducible exact E3.out.1.ncell | with_reducible exact D4.out.ncell | with_reducible exact (D4.out.next (Below.al' _ _)).ncell | with_reducible exact E4.out.1.ncell | with_reducible exact D5.out.ncell | with_reducible exact (D5.out.next (Below.al' _ _)).ncell | with_reducible exact E5.out.1.ncell | with_reducible exact (E5.out.1.set7 E5.out.2.2 _ _ _ _ _ _ _).ncell | fail)
      (first
      | (go_at_call 73; refine (octNext p l ⟨0, false⟩ _ D0.out.rd Hlx.out).mono ?_; rintro e w3 ⟨he, ha⟩; rw [V1.out] at he ha; simp only at he ha; subst he; have D1 := Lib.hid (D0.out.step ha); clear ha D0)
      | (go_at_call 73; have E0' := Lib.hid (show DN w p w2.heap.size l ⟨0, false⟩ (World.drew (World.alloc (w2.alloc (.cells #[.pointer (some ⟨p, 0, none⟩)] 127)) (.cells #[.int .i64 0, .int .i64 0, .int .i64 0, .int .i64 0, .int .i64 0, .slice none 0 0, .slice none 0 0] 61))) ∧ Box (World.drew (World.alloc (w2.alloc (.cells #[.pointer (some ⟨p, 0, none⟩)] 127)) (.cells #[.int .i64 0, .int .i64 0, .int .i64 0, .int .i64 0, .int .i64 0, .slice none 0 0, .slice none 0 0] 61))) (w2.heap.size + 1) 61 #[.int .i64 0, .int .i64 0, .int .i64 0, .int .i64 0, .int .i64 0, .slice none 0 0, .slice none 0 0] ∧ w2.heap.size < w2.heap.size + 1 from ⟨(R0.out.next (Below.al' _ _)).next (below_drew1 _), (boxAt _ _ _ (World.size_alloc _ _)).drew, Nat.lt_succ_self _⟩); refine (octNext p l ⟨0, false⟩ _ E0'.out.1.rd Hlx.out).mono ?_; rintro e w3 ⟨he, ha⟩; rw [V1.out] at he ha; simp only at he ha; subst he; have E1 := Lib.hid (And.intro (E0'.out.1.step ha) (And.intro (E0'.out.2.1.chg ha.2 (by have := E0'.out.1.ord.2; have := E0'.out.2.2; omega)) E0'.out.2.2)); have hec1 := E1.out.2.1.cell; have hef1 := E1.out.2.1.free; have hel1 := E1.out.2.1.lt; clear ha D0 E0')
      | (go_at_call 73; (with_reducible refine (octNext p l s1 _ D1.out.rd Hlx.out).mono ?_); rintro e w4 ⟨he, ha⟩; rw [V2.out] at he ha; simp only at he ha; subst he; have D2 := Lib.hid (D1.out.step ha); clear ha D1)
      | (go_at_call 73; have E0' := Lib.hid (show DN w p w2.heap.size l s1 (World.alloc w3 (.cells #[.int .i64 0, .int .i64 0, .int .i64 0, .int .i64 0, .int .i64 0, .slice none 0 0, .slice none 0 0] 61)) ∧ Box (World.alloc w3 (.cells #[.int .i64 0, .int .i64 0, .int .i64 0, .int .i64 0, .int .i64 0, .slice none 0 0, .slice none 0 0] 61)) (World.heap w3).size 61 #[.int .i64 0, .int .i64 0, .int .i64 0, .int .i64 0, .int .i64 0, .slice none 0 0, .slice none 0 0] ∧ w2.heap.size < (World.heap w3).size from ⟨D1.out.next (Below.al' _ _), Box.new _ _ _, D1.out.nbx.lt⟩); (with_reducible refine (octNext p l s1 _ E0'.out.1.rd Hlx.out).mono ?_); rintro e w4 ⟨he, ha⟩; rw [V2.out] at he ha; simp only at he ha; subst he; have E2 := Lib.hid (And.intro (E0'.out.1.step ha) (And.intro (E0'.out.2.1.chg ha.2 (by have := E0'.out.1.ord.2; have := E0'.out.2.2; omega)) E0'.out.2.2)); have hec2 := E2.out.2.1.cell; have hef2 := E2.out.2.1.free; have hel2 := E2.out.2.1.lt; clear ha D1 E0')
      | (go_at_call 73; (with_reducible refine (octNext p l s1 _ E1.out.1.rd Hlx.out).mono ?_); rintro e w4 ⟨he, ha⟩; rw [V2.out] at he ha; simp only at he ha; subst he; have E2 := Lib.hid (And.intro (E1.out.1.step ha) (And.intro (E1.out.2.1.chg ha.2 (by have := E1.out.1.ord.2; have := E1.out.2.2; omega)) E1.out.2.2)); have hec2 := E2.out.2.1.cell; have hef2 := E2.out.2.1.free; have hel2 := E2.out.2.1.lt; clear ha E1 hec1 hef1 hel1)
      | (go_at_call 73; (with_reducible refine (octNext p l s2 _ D2.out.rd Hlx.out).mono ?_); rintro e w5 ⟨he, ha⟩; rw [V3.out] at he ha; simp only at he ha; subst he; have D3 := Lib.hid (D2.out.step ha); clear ha D2)
      | (go_at_call 73; have E0' := Lib.hid (show DN w p w2.heap.size l s2 (World.alloc w4 (.cells #[.int .i64 0, .int .i64 0, .int .i64 0, .int .i64 0, .int .i64 0, .slice none 0 0, .slice none 0 0] 61)) ∧ Box (World.alloc w4 (.cells #[.int .i64 0, .int .i64 0, .int .i64 0, .int .i64 0, .int .i64 0, .slice none 0 0, .slice none 0 0] 61)) (World.heap w4).size 61 #[.int .i64 0, .int .i64 0, .int .i64 0, .int .i64 0, .int .i64 0, .slice none 0 0, .slice none 0 0] ∧ w2.heap.size < (World.heap w4).size from ⟨D2.out.next (Below.al' _ _), Box.new _ _ _, D2.out.nbx.lt⟩); (with_reducible refine (octNext p l s2 _ E0'.out.1.rd Hlx.out).mono ?_); rintro e w5 ⟨he, ha⟩; rw [V3.out] at he ha; simp only at he ha; subst he; have E3 := Lib.hid (And.intro (E0'.out.1.step ha) (And.intro (E0'.out.2.1.chg ha.2 (by have := E0'.out.1.ord.2; have := E0'.out.2.2; omega)) E0'.out.2.2)); have hec3 := E3.out.2.1.cell; have hef3 := E3.out.2.1.free; have hel3 := E3.out.2.1.lt; clear ha D2 E0')
      | (go_at_call 73; (with_reducible refine (octNext p l s2 _ E2.out.1.rd Hlx.out).mono ?_); rintro e w5 ⟨he, ha⟩; rw [V3.out] at he ha; simp only at he ha; subst he; have E3 := Lib.hid (And.intro (E2.out.1.step ha) (And.intro (E2.out.2.1.chg ha.2 (by have := E2.out.1.ord.2; have := E2.out.2.2; omega)) E2.out.2.2)); have hec3 := E3.out.2.1.cell; have hef3 := E3.out.2.1.free; have hel3 := E3.out.2.1.lt; clear ha E2 hec2 hef2 hel2)
      | (go_at_call 73; (with_reducible refine (octNext p l s3 _ D3.out.rd Hlx.out).mono ?_); rintro e w6 ⟨he, ha⟩; rw [V4.out] at he ha; simp only at he ha; subst he; have D4 := Lib.hid (D3.out.step ha); clear ha D3)
      | (go_at_call 73; have E0' := Lib.hid (show DN w p w2.heap.size l s3 (World.alloc w5 (.cells #[.int .i64 0, .int .i64 0, .int .i64 0, .int .i64 0, .int .i64 0, .slice none 0 0, .slice none 0 0] 61)) ∧ Box (World.alloc w5 (.cells #[.int .i64 0, .int .i64 0, .int .i64 0, .int .i64 0, .int .i64 0, .slice none 0 0, .slice none 0 0] 61)) (World.heap w5).size 61 #[.int .i64 0, .int .i64 0, .int .i64 0, .int .i64 0, .int .i64 0, .slice none 0 0, .slice none 0 0] ∧ w2.heap.size < (World.heap w5).size from ⟨D3.out.next (Below.al' _ _), Box.new _ _ _, D3.out.nbx.lt⟩); (with_reducible refine (octNext p l s3 _ E0'.out.1.rd Hlx.out).mono ?_); rintro e w6 ⟨he, ha⟩; rw [V4.out] at he ha; simp only at he ha; subst he; have E4 := Lib.hid (And.intro (E0'.out.1.step ha) (And.intro (E0'.out.2.1.chg ha.2 (by have := E0'.out.1.ord.2; have := E0'.out.2.2; omega)) E0'.out.2.2)); have hec4 := E4.out.2.1.cell; have hef4 := E4.out.2.1.free; have hel4 := E4.out.2.1.lt; clear ha D3 E0')
      | (go_at_call 73; (with_reducible refine (octNext p l s3 _ E3.out.1.rd Hlx.out).mono ?_); rintro e w6 ⟨he, ha⟩; rw [V4.out] at he ha; simp only at he ha; subst he; have E4 := Lib.hid (And.intro (E3.out.1.step ha) (And.intro (E3.out.2.1.chg ha.2 (by have := E3.out.1.ord.2; have := E3.out.2.2; omega)) E3.out.2.2)); have hec4 := E4.out.2.1.cell; have hef4 := E4.out.2.1.free; have hel4 := E4.out.2.1.lt; clear ha E3 hec3 hef3 hel3)
      | (go_at_call 73; (with_reducible refine (octNext p l s4 _ D4.out.rd Hlx.out).mono ?_); rintro e w7 ⟨he, ha⟩; rw [V5.out] at he ha; simp only at he ha; subst he; have D5 := Lib.hid (D4.out.step ha); clear ha D4)
      | (go_at_call 73; have E0' := Lib.hid (show DN w p w2.heap.size l s4 (World.alloc w6 (.cells #[.int .i64 0, .int .i64 0, .int .i64 0, .int .i64 0, .int .i64 0, .slice none 0 0, .slice none 0 0] 61)) ∧ Box (World.alloc w6 (.cells #[.int .i64 0, .int .i64 0, .int .i64 0, .int .i64 0, .int .i64 0, .slice none 0 0, .slice none 0 0] 61)) (World.heap w6).size 61 #[.int .i64 0, .int .i64 0, .int .i64 0, .int .i64 0, .int .i64 0, .slice none 0 0, .slice none 0 0] ∧ w2.heap.size < (World.heap w6).size from ⟨D4.out.next (Below.al' _ _), Box.new _ _ _, D4.out.nbx.lt⟩); (with_reducible refine (octNext p l s4 _ E0'.out.1.rd Hlx.out).mono ?_); rintro e w7 ⟨he, ha⟩; rw [V5.out] at he ha; simp only at he ha; subst he; have E5 := Lib.hid (And.intro (E0'.out.1.step ha) (And.intro (E0'.out.2.1.chg ha.2 (by have := E0'.out.1.ord.2; have := E0'.out.2.2; omega)) E0'.out.2.2)); have hec5 := E5.out.2.1.cell; have hef5 := E5.out.2.1.free; have hel5 := E5.out.2.1.lt; clear ha D4 E0')
      | (go_at_call 73; (with_reducible refine (octNext p l s4 _ E4.out.1.rd Hlx.out).mono ?_); rintro e w7 ⟨he, ha⟩; rw [V5.out] at he ha; simp only at he ha; subst he; have E5 := Lib.hid (And.intro (E4.out.1.step ha) (And.intro (E4.out.2.1.chg ha.2 (by have := E4.out.1.ord.2; have := E4.out.2.2; omega)) E4.out.2.2)); have hec5 := E5.out.2.1.cell; have hef5 := E5.out.2.1.free; have hel5 := E5.out.2.1.lt; clear ha E4 hec4 hef4 hel4))
    all_goals (go_wp2_with fail; go_meet; first
      | exact ⟨_, rfl, E5.out.1.set7 E5.out.2.2 _ _ _ _ _ _ _, box7 E5.out.2.1 _ _ _ _ _ _ _, E5.out.2.2⟩
      | exact ⟨_, rfl, D5.out.next (Below.al' _ _), Box.new _ _ _, D5.out.nbx.lt⟩)
  case rest =>
    obtain ⟨mb, rfl, hD, hM, hmb⟩ := hcut
    have hnc6 := hD.ncell
    have hM6 := hM.cell
    have DX := Lib.hid hD
    have MX := Lib.hid hM
    have hwl := hD.res.lt
    have hnl := hD.nbx.lt
    clear hD hM
    go_wp2_with (go_at_call 74; refine (octCount p 64 (by omega) l s5 _ DX.out.rd Hlx.out).mono ?_; rintro e w8 ⟨he, ha⟩; rw [V6.out] at he ha; simp only at he ha; subst he; have hM8 := MX.out.chg ha.2 (by have := DX.out.ord.2; omega); have D8 := Lib.hid (DX.out.step ha); have M8 := Lib.hid hM8; clear ha DX MX hnc6 hM6 hM8)
    go_loopw [32] (fun i wr => ∃ (k : Nat) (ss : List Int) (b : Option Addr) (cc : Nat) (s : RSt), k ≤ n1 ∧ i = .int .i64 k ∧ ss.length = k ∧ DMW w p w2.heap.size mb l s v1 v2 v3 v4 v5 b k cc none 0 0 ss [] wr ∧ ConM l s ([(v1 : Int), v2, v3, v4, v5, n1] ++ ss) ∧ CanM l s ([(v1 : Int), v2, v3, v4, v5, n1] ++ ss) ∧ Sm ss)
      (fun i _ => n1 - (intOf i).toNat)
    case atStart =>
      refine ⟨0, [], none, 0, s6, Nat.zero_le _, rfl, rfl, DMW.start D8.out M8.out hmb, ?_, ?_, Sm.nil⟩
      · exact (((((ConM.start l).next V1.out).next V2.out).next V3.out).next V4.out).next V5.out |>.count V6.out
      · exact can6 V1.out V2.out V3.out V4.out V5.out V6.out
    case round =>
      clear D8 M8
      obtain ⟨k, ss, b, cc, s, hk, rfl, hsl, hD, hCo, hCa, hSm⟩ := hrel
      have HD := Lib.hid hD
      have HL := Lib.hid (And.intro hsl (And.intro hCo (And.intro hCa hSm)))
      have hmc := hD.m5
      have hncl := hD.dn.ncell
      have hml := hD.mbx.lt
      have hmf := hD.mbx.free
      clear hD hsl hCo hCa hSm
      by_cases hlt : k < n1
      · rcases hv : nxS l s with ⟨v, s'⟩
        have HV := Lib.hid hv
        clear hv
        go_wp2
        have HDd := Lib.hid (HD.out.next (below_drew1 _))
        go_region_law
          (first
            | (go_simp
               go_at_call 73
               refine (octNext p l s _ HDd.out.dn.rd Hlx.out).mono ?_
               rintro e w3 ⟨he, ha⟩
               rw [HV.out] at he ha
               simp only at he ha
               subst he
               have hd := HDd.out.step ha
               have hnc3 := hd.dn.ncell
               have hm3 := hd.m5
               have hf3 := hd.mbx.free
               have hl3 := hd.mbx.lt
               have D1 := Lib.hid hd
               clear ha hd HDd)
            | ((refine step_append_lies _ (by rfl) _ _ _ (by rfl) (mb + 1) 3 i0 _ 1 8 Try.underlying23 hi0 hz0 hs0 hy0 rfl (by omega) (.slice b k cc) k (ss.map (.int .i64)) (by rfl) (D1.out.next (Below.al' _ _)).r1
                  ⟨w3.heap.size, 0, none⟩ 1 1 [.int .i64 v] (by rfl) (by rfl) (World.news_of_block (cs := #[.int .i64 v]) (t := 3) (fr := (0, 0)) (heap_alloc_new w3 _)) (by simp [Value.oneCell']) (by omega) (by unfold maxLen; omega) (by omega) (by simp; omega) (w3.heap.size + 1) (by simp) ?_
                intro g cap w4 hown hgrow hat hlt4
                have DA := D1.out.next (Below.al' w3 (.cells #[.int .i64 v] 3))
                have gr1 := (DA.dn.chg (Chg.of_grown hgrow) (fun j hj => by have := (DA.r1.lt j hj.symm).1; have := DA.hm; omega)).ncell
                have hq := DA.mbx.grown hgrow (fun e => by have := (DA.r1.lt _ e.symm).1; omega)
                have hqc := hq.cell
                have hqf := hq.free
                have hql := hq.lt
                have D9 := Lib.hid (DA.seg hgrow hown (hat.imp id fun h => by simp; omega))
                clear DA hq hown hgrow hat D1)))
        all_goals
          go_wp2
          go_roundw
          case rel => exact ⟨k + 1, ss ++ [(v : Int)], _, _, s', by omega, by go_num, by simp [HL.out.1], D9.out, by rw [← List.append_assoc]; exact HL.out.2.1.next HV.out, by rw [← List.append_assoc]; exact HL.out.2.2.1.next HV.out (can_seg hlt HL.out.1), HL.out.2.2.2.next HV.out⟩
          case measure => simp [intOf]; omega
      · obtain rfl : k = n1 := by omega
        rcases h7 : cnS 64 l s with ⟨n2, s7⟩
        have hn2 : n2 ≤ 64 := by have := cnS_le 64 (l := l) (s := s); rw [h7] at this; exact this
        have V7 := Lib.hid h7
        clear h7
        go_wp2_with (go_at_call 74; refine (octCount p 64 (by omega) l s _ HD.out.dn.rd Hlx.out).mono ?_; rintro e w9 ⟨he, ha⟩; rw [V7.out] at he ha; simp only at he ha; subst he; have D9 := Lib.hid (HD.out.step ha); clear ha HD hmc hncl hml hmf)
        go_loopw [44] (fun i wr => ∃ (k2 : Nat) (ps : List P3) (b2 : Option Addr) (c2 : Nat) (st : RSt), k2 ≤ n2 ∧ i = .int .i64 k2 ∧ ps.length = k2 ∧ DMW w p w2.heap.size mb l st v1 v2 v3 v4 v5 b k cc b2 k2 c2 ss ps wr ∧ ConM l st ((([(v1 : Int), v2, v3, v4, v5, k] ++ ss) ++ [(n2 : Int)]) ++ ps.flatMap flat3) ∧ CanM l st ((([(v1 : Int), v2, v3, v4, v5, k] ++ ss) ++ [(n2 : Int)]) ++ ps.flatMap flat3))
          (fun i _ => n2 - (intOf i).toNat)
        case atStart =>
          refine ⟨0, [], none, 0, s7, Nat.zero_le _, rfl, rfl, D9.out, ?_, ?_⟩
          · simpa using HL.out.2.1.count V7.out
          · simpa using HL.out.2.2.1.count V7.out (can_np HL.out.1)
        case round =>
          clear D9
          obtain ⟨k2, ps, b2, c2, st, hk2, rfl, hpl2, hD, hCo, hCa⟩ := hrel
          have HD := Lib.hid hD
          have HP := Lib.hid (And.intro hpl2 (And.intro hCo hCa))
          have hmc := hD.m6
          have hncl := hD.dn.ncell
          have hml := hD.mbx.lt
          have hmf := hD.mbx.free
          clear hD hpl2 hCo hCa
          by_cases hlt2 : k2 < n2
          · rcases hv1 : nxS l st with ⟨x1, t1⟩
            rcases hv2 : nxS l t1 with ⟨x2, t2⟩
            rcases hv3 : nxS l t2 with ⟨x3, t3⟩
            have X1 := Lib.hid hv1
            have X2 := Lib.hid hv2
            have X3 := Lib.hid hv3
            clear hv1 hv2 hv3
            go_wp2
            have HDd := Lib.hid (HD.out.next (below_drew1 _))
            have hS0 := And.intro HDd.out.dn.ncell HDd.out.m6
            refine WT.start (fun w' => w'.cell? ⟨w2.heap.size, 0, none⟩ = some (.pointer (some ⟨p, 0, none⟩)) ∧ w'.cell? ⟨mb, 6, none⟩ = some (.slice b2 k2 c2)) 12 (by kernel_rfl) ?_
            refine WT.take 0 (v := ?_) rfl (by kernel_rfl) (by kernel_rfl) (by kernel_rfl) (by kernel_rfl) (fun _ _ _ h => h) (Or.inl ⟨by rfl, ?hy⟩) hS0 ?_
            case hy => first | (intro w hSw; go_simp; done) | (intro w hSw; go_simp; with_reducible rfl)
            simp only [Act.put, List.setIfInBounds_toArray, List.set_cons_zero, List.set_cons_succ]
            refine WT.take 1 (v := ?_) rfl (by kernel_rfl) (by kernel_rfl) (by kernel_rfl) (by kernel_rfl) (fun _ _ _ h => h) (Or.inl ⟨by rfl, ?hy⟩) hS0 ?_
            case hy => first | (intro w hSw; go_simp; done) | (intro w hSw; go_simp; with_reducible rfl)
            simp only [Act.put, List.setIfInBounds_toArray, List.set_cons_zero, List.set_cons_succ]
            refine WT.take 2 (v := ?_) rfl (by kernel_rfl) (by kernel_rfl) (by kernel_rfl) (by kernel_rfl) (fun _ _ _ h => h) (Or.inl ⟨by rfl, ?hy⟩) hS0 ?_
            case hy => first | (intro w hSw; go_simp; done) | (intro w hSw; go_simp; with_reducible rfl)
            simp only [Act.put, List.setIfInBounds_toArray, List.set_cons_zero, List.set_cons_succ]
            refine WT.take 4 (v := ?_) rfl (by kernel_rfl) (by kernel_rfl) (by kernel_rfl) (by kernel_rfl) (fun _ _ _ h => h) (Or.inl ⟨by rfl, ?hy⟩) hS0 ?_
            case hy => first | (intro w hSw; go_simp; done) | (intro w hSw; go_simp; with_reducible rfl)
            simp only [Act.put, List.setIfInBounds_toArray, List.set_cons_zero, List.set_cons_succ]
            refine WT.take 6 (v := ?_) rfl (by kernel_rfl) (by kernel_rfl) (by kernel_rfl) (by kernel_rfl) (fun _ _ _ h => h) (Or.inl ⟨by rfl, ?hy⟩) hS0 ?_
            case hy => first | (intro w hSw; go_simp; done) | (intro w hSw; go_simp; with_reducible rfl)
            simp only [Act.put, List.setIfInBounds_toArray, List.set_cons_zero, List.set_cons_succ]
            refine WT.step 3 rfl (by kernel_rfl) (by decide) fun K hK => ?_
            go_simp
            go_at_call 73
            refine (octNext p l st _ HDd.out.dn.rd Hlx.out).mono ?_
            rintro e w10 ⟨he, ha⟩
            rw [X1.out] at he ha
            simp only at he ha
            subst he
            have G1 := Lib.hid (HDd.out.step ha)
            clear ha HDd hS0
            have hS1 := And.intro G1.out.dn.ncell G1.out.m6
            go_simp
            refine hK.out _ _ hS1 ?_
            refine WT.step 5 rfl (by kernel_rfl) (by decide) fun K hK => ?_
            go_simp
            go_at_call 73
            refine (octNext p l t1 _ G1.out.dn.rd Hlx.out).mono ?_
            rintro e w11 ⟨he, ha⟩
            rw [X2.out] at he ha
            simp only at he ha
            subst he
            have G2 := Lib.hid (G1.out.step ha)
            clear ha G1 hS1
            have hS2 := And.intro G2.out.dn.ncell G2.out.m6
            go_simp
            refine hK.out _ _ hS2 ?_
            clear hK K
            refine WT.step 7 rfl (by kernel_rfl) (by decide) fun K hK => ?_
            go_simp
            go_at_call 73
            refine (octNext p l t2 _ G2.out.dn.rd Hlx.out).mono ?_
            rintro e w12 ⟨he, ha⟩
            rw [X3.out] at he ha
            simp only at he ha
            subst he
            have G3 := Lib.hid (G2.out.step ha)
            clear ha G2 hS2
            have hS3 := And.intro G3.out.dn.ncell G3.out.m6
            go_simp
            refine hK.out _ _ hS3 ?_
            clear hK K
            refine WT.step 8 rfl (by kernel_rfl) (by decide) fun K hK => ?_
            go_simp
            refine hK.out _ _ hS3 ?_
            clear hK K
            refine WT.step 9 rfl (by kernel_rfl) (by decide) fun K hK => ?_
            go_simp
            have G4 := Lib.hid (G3.out.next (Below.al' w12 (.cells #[.int .i64 x1, .int .i64 x2, .int .i64 x3] 120)))
            refine hK.out _ _ (And.intro G4.out.dn.ncell G4.out.m6) ?_
            clear hK K
            refine WT.step 10 rfl (by kernel_rfl) (by decide) fun K hK => ?_
            refine step_append_lies _ (by rfl) _ _ _ (by rfl) (mb + 1) 120 i1 _ 3 24 Try.underlying59 hi1 hz1 hs1 hy1 rfl (by omega) (.slice b2 k2 c2) k2 (ps.flatMap tri) (by rfl) G4.out.r2
                  ⟨w12.heap.size, 0, none⟩ 1 1 (tri ((x1 : Int), (x2 : Int), (x3 : Int))) (by rfl) (by rfl) (World.news_of_block (cs := #[.int .i64 x1, .int .i64 x2, .int .i64 x3]) (t := 120) (fr := (0, 0)) (heap_alloc_new w12 _)) (by simp [tri, Value.oneCell']) (by omega) (by unfold maxLen; omega) (by omega) (by have := G3.out.mbx.lt; simp; omega) (w12.heap.size + 1) (by simp) ?_
            intro g cap w13 hown hgrow hat hlt4
            have gr1 := (G4.out.dn.chg (Chg.of_grown hgrow) (fun j hj => by have := (G4.out.r2.lt j hj.symm).1; have := G4.out.hm; omega)).ncell
            have hq := G4.out.mbx.grown hgrow (fun e => by have := (G4.out.r2.lt _ e.symm).1; omega)
            have hqc := hq.cell
            have hqf := hq.free
            have hql := hq.lt
            have hq6 : w13.cell? ⟨mb, 6, none⟩ = some (.slice b2 k2 c2) := hq.cell 6
            have D9 := Lib.hid (G4.out.prod hgrow hown (hat.imp id fun h => by simp; omega))
            clear hq hown hgrow hat G4 G3
            go_simp
            refine hK.out _ _ (And.intro gr1 hq6) ?_
            clear hK K
            refine WT.step 11 rfl (by kernel_rfl) (by decide) fun K hK => ?_
            go_simp
            refine hK.out _ _ (And.intro gr1 hq6) ?_
            clear hK K
            refine WT.last 12 rfl (by kernel_rfl) rfl fun K hK => ?_
            go_simp
            refine hK.out _ _ ?_
            clear hK K
            refine WT.done (by kernel_rfl) ?_
            go_wp2
            go_roundw
            case rel => exact ⟨k2 + 1, ps ++ [((x1 : Int), (x2 : Int), (x3 : Int))], _, _, t3, by omega, by go_num, by simp [HP.out.1], D9.out, prods_con X1.out X2.out X3.out HP.out.2.1, prods_can hlt2 HL.out.1 HP.out.1 X1.out X2.out X3.out HP.out.2.2⟩
            case measure => simp [intOf]; omega
          · obtain rfl : k2 = n2 := by omega
            have hle := HD.out.dn.rd.le
            have HF := Lib.hid (show ConM l st (numsM v1 v2 v3 v4 v5 ss ps) ∧ CanM l st (numsM v1 v2 v3 v4 v5 ss ps) by rw [← numsM_fin HL.out.1 HP.out.1]; exact HP.out.2)
            have hrc := HD.out.dn.res.cell
            have hrl := HD.out.dn.res.lt
            have hrf := HD.out.dn.res.free
            have hmk := HD.out.mbx.cell
            have hord := HD.out.dn.ord
            have hfd := field0
            by_cases hE : st.fl = false ∧ st.at_ = l.length
            case neg =>
              have HNo : Hid (∀ id ns nx mk cl segs prods, manR id ns nx mk cl segs prods = true → encM id ns nx mk cl segs prods ≠ bs) := fun id ns nx mk cl segs prods hr he => hE (man_only HF.out.2 hle hr (he.trans Hbl.out)).2
              have HE := Lib.hid hE
              clear hE
              go_wp2_with (go_at_call 75; refine (octEnd p l st _ HD.out.dn.rd).mono ?_; rintro e w10 ⟨x, y, rfl, hx, hb6⟩; have hx0 : x ≠ 0 := (fun h => HE.out (hx.mpr h)); have hxb : (x != 0) = true := (by simpa using hx0); have hd := HD.out.next hb6; have hsc := hd.dn.res.cell; have hsl' := hd.dn.res.lt; have hsf := hd.dn.res.free; have hmk2 := hd.mbx.cell; have hml2 := hd.mbx.lt; have D10 := Lib.hid hd; clear hx hb6 hd)
              refine bodyPost_ret (v := .tuple #[manV 0 0 0 0 0 (.slice none 0 0) (.slice none 0 0), .int .i64 72]) ?_ rfl ?_
              · simp [results, Try.results23, go_sem, hsc]
              refine ⟨.inr ⟨HNo.out, rfl⟩, ?_⟩
              repeat (first | with_reducible exact D10.out.dn.below | refine Below.setCell ?_ (by simp) _)
            have HE := Lib.hid hE
            clear hE
            by_cases hr : manR v1 v2 v3 v4 v5 ss ps = true
            case neg =>
              have HNo : Hid (∀ id ns nx mk cl segs prods, manR id ns nx mk cl segs prods = true → encM id ns nx mk cl segs prods ≠ bs) := fun id ns nx mk cl segs prods hr' he => by
                obtain ⟨⟨rfl, rfl, rfl, rfl, rfl, rfl, rfl⟩, _⟩ := man_only HF.out.2 hle hr' (he.trans Hbl.out)
                exact hr hr'
              have HQ := Lib.hid (manE_bad (by simpa using hr))
              clear hr
              go_wp2_with (first
                | (go_at_call 75; refine (octEnd p l st _ HD.out.dn.rd).mono ?_; rintro e w10 ⟨x, y, rfl, hx, hb6⟩; obtain rfl : x = 0 := (hx.mp HE.out); have hd := HD.out.next hb6; have hsc := hd.dn.res.cell; have hsl' := hd.dn.res.lt; have hsf := hd.dn.res.free; have hmk2 := hd.mbx.cell; have hml2 := hd.mbx.lt; have D10 := Lib.hid hd; clear hx hb6 hd)
                | (go_at_call 66; rw [show k = ss.length from HL.out.1.symm, show k2 = ps.length from HP.out.1.symm]; refine (check_any v1 v2 v3 v4 v5 _ _ cc c2 ss ps _ (ownsRow_rd D10.out.r1) (ownsRow_rd D10.out.r2) HL.out.2.2.2.wf).mono ?_; rintro e w11 ⟨he, hb7⟩; rw [← HQ.out] at he; subst he; have hd := D10.out.next hb7; have htc := hd.dn.res.cell; have htl := hd.dn.res.lt; have htf := hd.dn.res.free; have hmk3 := hd.mbx.cell; have hml3 := hd.mbx.lt; have D11 := Lib.hid hd; clear hb7 hd))
              refine bodyPost_ret (v := .tuple #[manV 0 0 0 0 0 (.slice none 0 0) (.slice none 0 0), .int .i64 72]) ?_ rfl ?_
              · simp [results, Try.results23, go_sem, htc]
              refine ⟨.inr ⟨HNo.out, rfl⟩, ?_⟩
              repeat (first | with_reducible exact D11.out.dn.below | refine Below.setCell ?_ (by simp) _)
            have HQ := Lib.hid (manE_good hr)
            have HR := Lib.hid hr
            clear hr
            go_wp2_with (first
              | (go_at_call 75; refine (octEnd p l st _ HD.out.dn.rd).mono ?_; rintro e w10 ⟨x, y, rfl, hx, hb6⟩; obtain rfl : x = 0 := (hx.mp HE.out); have hd := HD.out.next hb6; have hsc := hd.dn.res.cell; have hsl' := hd.dn.res.lt; have hsf := hd.dn.res.free; have hmk2 := hd.mbx.cell; have hml2 := hd.mbx.lt; have D10 := Lib.hid hd; clear hx hb6 hd)
              | (go_at_call 66; rw [show k = ss.length from HL.out.1.symm, show k2 = ps.length from HP.out.1.symm]; refine (check_any v1 v2 v3 v4 v5 _ _ cc c2 ss ps _ (ownsRow_rd D10.out.r1) (ownsRow_rd D10.out.r2) HL.out.2.2.2.wf).mono ?_; rintro e w11 ⟨he, hb7⟩; rw [← HQ.out] at he; subst he; have hd := D10.out.next hb7; have htc := hd.dn.res.cell; have htl := hd.dn.res.lt; have htf := hd.dn.res.free; have hmk3 := hd.mbx.cell; have hml3 := hd.mbx.lt; have D11 := Lib.hid hd; clear hb7 hd))
            refine bodyPost_ret (v := .tuple #[manV v1 v2 v3 v4 v5 (.slice b k cc) (.slice b2 k2 c2), .int .i64 0]) ?_ rfl ?_
            · simp [results, Try.results23, go_sem, htc]
            refine ⟨dman_yes D11.out HL.out.1 HP.out.1 HF.out.1 HF.out.2 hle HE.out HR.out Hbl.out (chg7 _ _ _ _ _ _ _ _ _), ?_⟩
            repeat (first | with_reducible exact D11.out.dn.below | refine Below.setCell ?_ (by simp) _)
end Go.Proofs.Ytebeefkibbbkdaa
namespace Go.Proofs.Ytebeefkibbbkdaa
open Go.RowKit Go.Maps

theorem take_ne {a b : List UInt8} {k : Nat} (ha : k < a.length) (hb : k < b.length) (h : a[k] ≠ b[k]) : a ≠ b := by
  rintro rfl; exact h rfl
theorem eq_of_all {a b : List UInt8} (hl : a.length = b.length) (h : ∀ j (ha : j < a.length) (hb : j < b.length), a[j] = b[j]) : a = b :=
  List.ext_getElem hl h

set_option maxRecDepth 100000 in
set_option maxHeartbeats 4000000 in
theorem lawSame (A B : Option Addr) (n m c d : Nat) (a b : List UInt8) (w : World) (ha : a.length = n) (hb : b.length = m) (hA : Rd w w.heap.size A (bvW a)) (hB : Rd w w.heap.size B (bvW b)) (hn : n ≤ 140737488355328) (hm : m ≤ 140737488355328) :
    Calls Try.prog 12 #[.slice A n c, .slice B m d] w fun e w' => e = .returned (.bool (decide (a = b))) ∧ Below w.heap.size w w' := by
  have Ha := Lib.hid ha
  have Hb := Lib.hid hb
  by_cases hnm : n = m
  case neg =>
    have HD : Hid (decide (a = b) = false) := by
      show decide (a = b) = false
      simp; rintro rfl; omega
    have h1 : ((n : Int) != (m : Int)) = true := by simp; omega
    have h2 : (n != m) = true := by simp; omega
    clear ha hb hnm
    go_enter Try.func12, Try.ntmps12
    go_wp2
    go_ret
    rw [HD.out]
    exact ⟨rfl, Below.refl _ _⟩
  subst hnm
  clear ha hb
  go_enter Try.func12, Try.ntmps12
  go_wp2
  go_loopw [5] (fun i wr => ∃ (k : Nat), k ≤ n ∧ i = .int .i64 k ∧ Below w.heap.size w wr ∧ ∀ j (ha : j < a.length) (hb : j < b.length), j < k → a[j] = b[j])
    (fun i _ => n - (intOf i).toNat)
  case atStart => exact ⟨0, Nat.zero_le _, rfl, Below.refl _ _, fun j _ _ h => absurd h (by omega)⟩
  case round =>
    obtain ⟨k, hk, rfl, hbl, hall⟩ := hrel
    have Hall := Lib.hid hall
    clear hall
    by_cases hlt : k < n
    · have hk0 : (0 : Int) ≤ k := by omega
      have hk1 : (k : Int) < n := by omega
      have hka : k < a.length := by rw [Ha.out]; exact hlt
      have hkb : k < b.length := by rw [Hb.out]; exact hlt
      obtain ⟨ad, rfl, had, p0⟩ := (hA.below hbl) k (.int .u8 a[k].toNat) (by simp [bvW, hka])
      obtain ⟨ad', rfl, had', q0⟩ := (hB.below hbl) k (.int .u8 b[k].toNat) (by simp [bvW, hkb])
      have H := Lib.hid hbl
      clear hbl
      by_cases he : a[k] = b[k]
      · have He := Lib.hid he
        rw [← he] at q0
        clear he
        generalize a[k].toNat = x at p0 q0
        go_wp2
        go_quiet (fail)
        go_wp2
        go_roundw
        case rel =>
          exact ⟨k + 1, by omega, by go_num, below_drewN H.out _, fun j h1 h2 h3 => by
            by_cases hj : j = k
            · subst hj; exact He.out
            · exact Hall.out j h1 h2 (by omega)⟩
        case measure => simp [intOf]; omega
      · have HD : Hid (decide (a = b) = false) := decide_eq_false (take_ne hka hkb he)
        have hne : a[k].toNat ≠ b[k].toNat := fun h => he (UInt8.toNat_inj.1 h)
        generalize a[k].toNat = x at p0 hne
        generalize b[k].toNat = y at q0 hne
        have h1 : ((x : Int) != (y : Int)) = true := by simp; omega
        have h2 : (x != y) = true := by simpa using hne
        clear he hne
        go_wp2
        go_quiet (fail)
        go_wp2
        go_ret
        rw [HD.out]
        exact ⟨rfl, below_drewN H.out _⟩
    · have HD : Hid (decide (a = b) = true) := decide_eq_true (eq_of_all (Ha.out.trans Hb.out.symm) fun j h1 h2 => Hall.out j h1 h2 (by have := Ha.out; omega))
      go_wp2
      go_ret
      rw [HD.out]
      exact ⟨rfl, hbl⟩
end Go.Proofs.Ytebeefkibbbkdaa
namespace Go.Proofs.Ytebeefkibbbkdaa
open Go.RowKit Go.Maps
theorem encM_small2 (id ns nx mk cl : Int) (segs : List Int) (prods : List P3) : (encM id ns nx mk cl segs prods).length ≤ 2639 := by
  unfold encM
  split
  · rename_i hr; rw [wrapB_len]; have := bodyM_len hr; omega
  · simp
theorem bv_set2 (l : List UInt8) (k : Nat) (x : UInt8) : (bvW l).set k (.int .u8 x.toNat) = bvW (l.set k x) := by simp [bvW, List.map_set]
theorem Own.bvs2 {w : World} {B g : Nat} {t : TypeId} {l : List UInt8} (h : Own w B g t (bvW l)) {i : Nat} (hi : i < l.length) (x : UInt8) : Own (w.setCell ⟨g, i, none⟩ (.int .u8 x.toNat)) B g t (bvW (l.set i x)) := by
  have := h.set_ (i := i) (by simp [bvW]; omega) (.int .u8 x.toNat)
  rwa [bv_set2] at this

theorem dman_of {id ns nx mk cl : Int} {segs : List Int} {prods : List P3} (hr : manR id ns nx mk cl segs prods = true) {bs : List UInt8} (hb : encM id ns nx mk cl segs prods = bs) {w w' : World} {e : Ending} (h : DMan bs w w' e) :
    ∃ (b1 : Option Addr) (c1 : Nat) (b2 : Option Addr) (c2 : Nat), e = .returned (.tuple #[manV id ns nx mk cl (.slice b1 segs.length c1) (.slice b2 prods.length c2), .int .i64 0]) ∧ Rd w' w'.heap.size b1 (segs.map (.int .i64)) ∧ Rd w' w'.heap.size b2 (prods.flatMap tri) := by
  rcases h with ⟨id', ns', nx', mk', cl', segs', prods', b1, c1, b2, c2, h1, h2, h3, h4, h5, h6, h7⟩ | ⟨h1, h2⟩
  · obtain ⟨rfl, rfl, rfl, rfl, rfl, rfl, rfl⟩ := h3 _ _ _ _ _ _ _ hr hb
    exact ⟨b1, c1, b2, c2, h4, ownsRow_rd h5, ownsRow_rd h6⟩
  · exact absurd hb (h1 _ _ _ _ _ _ _ hr)
theorem dman_no {bs : List UInt8} (hn : ∀ id ns nx mk cl segs prods, manR id ns nx mk cl segs prods = true → encM id ns nx mk cl segs prods ≠ bs) {w w' : World} {e : Ending} (h : DMan bs w w' e) :
    e = .returned (.tuple #[manV 0 0 0 0 0 (.slice none 0 0) (.slice none 0 0), .int .i64 72]) := by
  rcases h with ⟨id', ns', nx', mk', cl', segs', prods', b1, c1, b2, c2, h1, h2, _⟩ | ⟨h1, h2⟩
  · exact absurd h2 (hn _ _ _ _ _ _ _ h1)
  · exact h2
theorem rd_nil0 (w : World) (B : Nat) (A : Option Addr) : Rd w B A (([] : List P3).flatMap tri) := Rd.nil _ _ _

theorem rd_new' (w : World) (ar : Array Value) (t : TypeId) (k : Nat) (h : w.heap.size = k) : Rd (w.alloc (.cells ar t)) (k + 1) (some ⟨k, 0, none⟩) ar.toList := by subst h; exact rd_new w ar t
theorem Own.rd_all {w : World} {B g : Nat} {t : TypeId} {cs : List Value} (h : Own w B g t cs) : Rd w w.heap.size (some ⟨g, 0, none⟩) cs := h.rd h.lt fun _ _ h => h

set_option maxRecDepth 100000 in
set_option maxHeartbeats 4000000 in
theorem small_any (w : World) : Calls Try.prog 22 #[.int .i64 3] w fun e w' =>
    ∃ b c, e = .returned (manV 3 2 0 0 0 (.slice b 1 c) (.slice none 0 0)) ∧ Rd w' w'.heap.size b (([1] : List Int).map (.int .i64)) ∧ Below w.heap.size w w' := by
  obtain ⟨i0, hi0, hz0, hs0, hy0⟩ := info_parts info_int
  have hb1 : Below w.heap.size w ((w.alloc (.cells #[.int .i64 0, .int .i64 0, .int .i64 0, .int .i64 0, .int .i64 0, .slice none 0 0, .slice none 0 0] 61)).alloc (.cells #[.int .i64 3, .int .i64 2, .int .i64 0, .int .i64 0, .int .i64 0, .slice none 0 0, .slice none 0 0] 61)) := ((Below.refl _ _).alloc (Nat.le_refl _) _).alloc (by simp <;> omega) _
  have hq1 := Box.new (w.alloc (.cells #[.int .i64 0, .int .i64 0, .int .i64 0, .int .i64 0, .int .i64 0, .slice none 0 0, .slice none 0 0] 61)) 61 #[.int .i64 3, .int .i64 2, .int .i64 0, .int .i64 0, .int .i64 0, .slice none 0 0, .slice none 0 0]
  have hq0 := (Box.new w 61 #[.int .i64 0, .int .i64 0, .int .i64 0, .int .i64 0, .int .i64 0, .slice none 0 0, .slice none 0 0]).alloc (.cells #[.int .i64 3, .int .i64 2, .int .i64 0, .int .i64 0, .int .i64 0, .slice none 0 0, .slice none 0 0] 61)
  have H := Lib.hid (And.intro hb1 (And.intro hq0 hq1))
  clear hb1 hq0 hq1
  go_enter Try.func22, Try.ntmps22
  go_wp2_with (first
    | (at_builtin
       refine wpList_app1 _ rfl (.tmp 7) (.tmp 8) _ rfl w.heap.size 3 i0 _ 1 8 Try.underlying23 hi0 hz0 hs0 hy0 rfl (by omega) (.slice none 0 0) 0 [] rfl (nil_ownW _ _ _ _) _ _ 1 1 [.int .i64 1] rfl rfl (rd_new' _ _ _ _ (by simp)) (by simp [Value.oneCell']) (by unfold maxLen; omega) (by omega) (by simp <;> omega) (by omega) ?_
       intro g cap w8 hO hca hcb hrow hg hwg
       have hb2 := (H.out.1.alloc (by simp <;> omega) (.cells #[.int .i64 1] 3)).grown hg (by simp <;> omega) (fun k e => by cases e)
       have hq0 := (H.out.2.1.alloc (.cells #[.int .i64 1] 3)).grown hg (fun e => by cases e)
       have hq1 := (H.out.2.2.alloc (.cells #[.int .i64 1] 3)).grown hg (fun e => by cases e)
       simp only [World.size_alloc] at hq1
       have hqg : g = w.heap.size + 3 := by
         rcases hwg with h | h
         · cases h
         · simpa using h
       have hc0 := hq0.cell
       have hc1 := hq1.cell
       have hf0 := hq0.free
       have hf1 := hq1.free
       have hsz := hq1.lt
       have H2 := Lib.hid (And.intro hb2 (And.intro hO (And.intro hq0 hq1)))
       clear hb2 hO hq0 hq1 hg hrow hwg H))
  refine bodyPost_ret (v := manV 3 2 0 0 0 (.slice (some ⟨g, 0, none⟩) 1 cap) (.slice none 0 0)) ?_ rfl ?_
  · simp [results, Try.results22, go_sem, hc0]
  refine ⟨some ⟨g, 0, none⟩, cap, rfl, ?_, ?_⟩
  · refine (show Rd _ _ _ ([] ++ [Value.int .i64 1]) from Own.rd_all (B := w.heap.size) (t := 3) ?_)
    repeat (first | with_reducible exact H2.out.2.1 | refine Own.far ?_ (show g ≠ _ by simp only; omega) _)
  · repeat (first | with_reducible exact H2.out.1 | refine Below.setCell ?_ (by simp) _)

set_option maxRecDepth 100000 in
set_option maxHeartbeats 4000000 in
theorem works_any (w : World) : Calls Try.prog 7 #[] w fun e w' => e = .returned (.bool true) ∧ Below w.heap.size w w' := by
  have hm : manR 3 2 0 0 0 [1] [] = true := by decide
  have HE := Lib.hid (show manE 3 2 0 0 0 [1] [] = 0 by rw [manE, hm]; rfl)
  generalize hse : encM 3 2 0 0 0 [1] [] = enc
  have hel := encM_small2 3 2 0 0 0 [1] []
  rw [hse] at hel
  generalize hL : enc.length = L at hel
  have HM := Lib.hid (And.intro hm hse)
  have HL := Lib.hid hL
  clear hm hse hL
  go_enter Try.func7, Try.ntmps7
  go_wp2_with (first
    | (go_at_call 22
       refine (small_any _).mono ?_
       rintro e w1 ⟨b1, c1, rfl, hr1, hb1⟩
       have H1 := Lib.hid (And.intro hr1 hb1)
       clear hr1 hb1)
    | (go_at_call 21
       refine (octEncode 3 2 0 0 0 b1 none c1 0 [1] [] _ H1.out.1 (Rd.nil _ _ _) (by simp [Lit.wf, IntKind.min, IntKind.max, IntKind.signed, IntKind.bits])).mono ?_
       rintro e w2 ⟨b, cap, rfl, hown, hb2⟩
       rw [HE.out, HM.out.2, HL.out]
       rw [HM.out.2, HL.out] at hown
       have hcp : L ≤ cap := by
         rcases hown.2 with ⟨h, _⟩ | ⟨g', c', cu, h, _, _, h2, _⟩
         · cases h; omega
         · cases h; omega
       have H2 := Lib.hid (And.intro (ownsRow_rd hown) (H1.out.2.trans (hb2.mono H1.out.2.size)))
       clear hown hb2 H1)
    | (go_at_call 23
       refine (manDecode b L cap enc _ H2.out.1 HL.out hcp (by omega)).mono ?_
       rintro e w3 ⟨hd, hb3⟩
       obtain ⟨d1, k1, d2, k2, rfl, hr1, hr2⟩ := dman_of HM.out.1 HM.out.2 hd
       have H3 := Lib.hid (And.intro hr1 (And.intro hr2 (And.intro (H2.out.2.trans (hb3.mono H2.out.2.size)) (Box.new w3 61 #[.int .i64 3, .int .i64 2, .int .i64 0, .int .i64 0, .int .i64 0, .slice d1 1 k1, .slice d2 0 k2]))))
       clear hr1 hr2 hd hb3 H2))
  have hcx := H3.out.2.2.2.cell
  have hlx := H3.out.2.2.2.lt
  have hfx := H3.out.2.2.2.free
  go_region_with (first
    | (go_at_call 22
       refine (small_any _).mono ?_
       rintro e w5 ⟨b5, c5, rfl, hr5, hb5⟩
       have hb5' : Below (w3.alloc (.cells #[.int .i64 3, .int .i64 2, .int .i64 0, .int .i64 0, .int .i64 0, .slice d1 1 k1, .slice d2 0 k2] 61)).heap.size (w3.alloc (.cells #[.int .i64 3, .int .i64 2, .int .i64 0, .int .i64 0, .int .i64 0, .slice d1 1 k1, .slice d2 0 k2] 61)) w5 := (below_drew1 _).trans hb5
       have hX := H3.out.2.2.2.below hb5' (by simp)
       have hcx5 := hX.cell
       have hlx5 := hX.lt
       have hfx5 := hX.free
       have hb35 := (Below.al' w3 (.cells #[.int .i64 3, .int .i64 2, .int .i64 0, .int .i64 0, .int .i64 0, .slice d1 1 k1, .slice d2 0 k2] 61)).trans (hb5'.mono (by simp))
       have H5 := Lib.hid (And.intro hr5 (And.intro hb35 ((H3.out.1.below hb35).mono hb35.size)))
       clear hr5 hb5 hb5' hX hb35)
    | (go_at_call 24
       refine (sameMan_eq 3 2 0 0 0 d1 b5 d2 none k1 c5 k2 0 [1] [] _ H5.out.2.2 H5.out.1 (Rd.nil _ _ _) (Rd.nil _ _ _) (by unfold maxLen; simp) (by unfold maxLen; simp)).mono ?_
       rintro e w6 ⟨rfl, hb6⟩
       have H6 := Lib.hid ((H3.out.2.2.1.trans (H5.out.2.1.mono H3.out.2.2.1.size)).trans (hb6.mono (by have := H3.out.2.2.1.size; have := H5.out.2.1.size; omega)))
       clear hb6))
  all_goals
    go_wp2
    go_ret
    exact ⟨rfl, H6.out⟩

/-! The plain part: what Decode may answer of damaged bytes. -/
theorem encM_yes {id ns nx mk cl : Int} {segs : List Int} {prods : List P3} (hr : manR id ns nx mk cl segs prods = true) : encM id ns nx mk cl segs prods = wrapB 179 (bodyM id ns nx mk cl segs prods) ∧ (bodyM id ns nx mk cl segs prods).length ≤ 2630 :=
  ⟨by rw [encM, if_pos hr], bodyM_len hr⟩
theorem dam_cut {id ns nx mk cl : Int} {segs : List Int} {prods : List P3} (hr : manR id ns nx mk cl segs prods = true) {enc : List UInt8} (he : encM id ns nx mk cl segs prods = enc) {k : Nat} (hk : k < enc.length) :
    ∀ id ns nx mk cl segs prods, manR id ns nx mk cl segs prods = true → encM id ns nx mk cl segs prods ≠ enc.take k := by
  intro id' ns' nx' mk' cl' segs' prods' hr' h
  obtain ⟨a1, a2⟩ := encM_yes hr
  obtain ⟨b1, b2⟩ := encM_yes hr'
  subst he
  rw [b1, a1] at h
  rw [a1] at hk
  exact wrapB_cut (by omega) (by omega) hk h
theorem dam_more {id ns nx mk cl : Int} {segs : List Int} {prods : List P3} (hr : manR id ns nx mk cl segs prods = true) {enc : List UInt8} (he : encM id ns nx mk cl segs prods = enc) {ms : List UInt8} (hk : 0 < ms.length) :
    ∀ id ns nx mk cl segs prods, manR id ns nx mk cl segs prods = true → encM id ns nx mk cl segs prods ≠ enc ++ ms := by
  intro id' ns' nx' mk' cl' segs' prods' hr' h
  obtain ⟨a1, a2⟩ := encM_yes hr
  obtain ⟨b1, b2⟩ := encM_yes hr'
  subst he
  rw [b1, a1] at h
  exact wrapB_more (by omega) (by omega) hk h
theorem dam_burst {id ns nx mk cl : Int} {segs : List Int} {prods : List P3} (hr : manR id ns nx mk cl segs prods = true) {enc : List UInt8} (he : encM id ns nx mk cl segs prods = enc) {k : Nat} {o : List UInt8} (h4 : o.length ≤ 4)
    (hk : k + o.length ≤ enc.length) (hpl : 9 ≤ k ∨ k + o.length ≤ 9) (hne : enc ≠ splice enc k o) :
    ∀ id ns nx mk cl segs prods, manR id ns nx mk cl segs prods = true → encM id ns nx mk cl segs prods ≠ splice enc k o := by
  intro id' ns' nx' mk' cl' segs' prods' hr' h
  obtain ⟨a1, a2⟩ := encM_yes hr
  obtain ⟨b1, b2⟩ := encM_yes hr'
  subst he
  rw [a1] at hk
  have h2 := h
  rw [b1, a1] at h2
  have := wrapB_burst (by omega) h4 hk hpl h2
  rw [← b1, ← a1] at this
  exact hne (this.symm.trans h)
theorem splice_set {l o : List UInt8} {k i : Nat} (hi : i < o.length) (hk : k + o.length ≤ l.length) : (splice l k (o.take i)).set (k + i) o[i] = splice l k (o.take (i + 1)) := by
  have h1 : (o.take i).length = i := by simp; omega
  have h2 : (o.take (i + 1)).length = i + 1 := by simp; omega
  unfold splice
  have h3 : o.take (i + 1) = o.take i ++ [o[i]] := by rw [List.take_add_one, List.getElem?_eq_getElem hi]; rfl
  rw [h1, h2, List.set_append_right _ _ (by simp; omega)]
  have e : k + i - (l.take k ++ o.take i).length = 0 := by simp; omega
  rw [e, List.drop_eq_getElem_cons (show k + i < l.length by omega), List.set_cons_zero, h3]
  simp only [List.append_assoc, List.cons_append, List.nil_append, Nat.add_assoc]
theorem splice_nil (l : List UInt8) (k : Nat) : splice l k [] = l := by simp [splice]

/-- What the law knows behind Encode: the bytes. -/
structure KD (w : World) (g : Nat) (enc : List UInt8) (W : World) : Prop where
  below : Below w.heap.size w W
  own : Own W w.heap.size g 5 (bvW enc)
section
variable {w W W' : World} {g : Nat} {enc : List UInt8}
theorem KD.next (d : KD w g enc W) (hb : Below W.heap.size W W') : KD w g enc W' := ⟨d.below.trans (hb.mono d.below.size), d.own.below hb d.own.lt⟩
theorem KD.rd (d : KD w g enc W) : Rd W W.heap.size (some ⟨g, 0, none⟩) (bvW enc) := d.own.rd d.own.lt fun _ _ h => h
theorem KD.rdk (d : KD w g enc W) (k : Nat) : Rd W W.heap.size (some ⟨g, 0, none⟩) (bvW (enc.take k)) := d.own.rd d.own.lt fun j u h => by
  simp only [bvW, List.getElem?_map, List.getElem?_take] at h ⊢
  split at h
  · exact h
  · cases h
end
end Go.Proofs.Ytebeefkibbbkdaa
