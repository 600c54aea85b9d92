import Derived.Test.YtdeaefbjddodjaaGreatDoorGg
import Derived.Deep.RegionHeld3
import Derived.Deep.AppendLies
import Derived.Deep.RegionLaw
import Derived.Deep.DeepCutAuto
import Derived.Test.YtdeaefbjddodjaaGreatDoorBDrw
import Derived.Test.YtdeaefbjddodjaaGreatDoorGe
import Derived.StillTailTactics
import Derived.OneCell
import Derived.Test.YtdeaefbjddodjaaGreatDoorGf
import Derived.Deep.RegionWith
namespace Go.Proofs.YtdeaefbjddodjaaGreatDoor
open Go.RowKit Go.Maps

/-- What Decode answers of the bytes bs. -/
def DMan (bs : List UInt8) (w w' : World) (e : Ending) : Prop :=
  (∃ (id ns nx mk cl : Int) (segs : List Int) (prods : List P3) (b1 : Option Addr) (c1 : Nat) (b2 : Option Addr) (c2 : Nat), manR id ns nx mk cl segs prods = true ∧ encM id ns nx mk cl segs prods = bs ∧
    (∀ id' ns' nx' mk' cl' segs' prods', manR id' ns' nx' mk' cl' segs' prods' = true → encM id' ns' nx' mk' cl' segs' prods' = bs → id' = id ∧ ns' = ns ∧ nx' = nx ∧ mk' = mk ∧ cl' = cl ∧ segs' = segs ∧ prods' = prods) ∧
    e = .returned (.tuple #[manV id ns nx mk cl (.slice b1 segs.length c1) (.slice b2 prods.length c2), .int .i64 0]) ∧
    w'.ownsRow w.heap.size 3 1 (.slice b1 segs.length c1) segs.length (segs.map (.int .i64)) ∧ w'.ownsRow w.heap.size 55 3 (.slice b2 prods.length c2) prods.length (prods.flatMap tri) ∧
    (∀ k, (Value.slice b1 segs.length c1).ownBlock = some k → (Value.slice b2 prods.length c2).ownBlock ≠ some k)) ∨
  ((∀ id ns nx mk cl segs prods, manR id ns nx mk cl segs prods = true → encM id ns nx mk cl segs prods ≠ bs) ∧
    e = .returned (.tuple #[manV 0 0 0 0 0 (.slice none 0 0) (.slice none 0 0), .int .i64 72]))
theorem nums_bytes : ∀ (l : List Int), (l.flatMap uvarI).length ≤ 10 * l.length
  | [] => by simp
  | x :: l => by
    have h := nums_bytes l
    have := uvar_le x.toNat
    simp only [List.flatMap_cons, List.length_append, List.length_cons, uvarI]
    omega
theorem bodyM_len {id ns nx mk cl : Int} {segs : List Int} {prods : List P3} (h : manR id ns nx mk cl segs prods = true) : (bodyM id ns nx mk cl segs prods).length ≤ 2630 := by
  obtain ⟨_, _, fs, fp, _⟩ := manR_facts h
  have h1 := nums_bytes (numsM id ns nx mk cl segs prods)
  rw [numsM_len] at h1
  rw [bodyM_nums]
  omega
theorem octUnwrapYes (mark : UInt8) (A : Option Addr) (n c : Nat) (bs l : List UInt8) (w : World) (hb : bs = wrapB mark l) (hl : l.length < 4294967296) (hA : Rd w w.heap.size A (bv bs)) (hn : bs.length = n) (hnc : n ≤ c) (hmx : n ≤ 140737488355000) :
    Calls Tryz.prog 27 #[.int .u8 mark.toNat, .slice A n c] w fun e w' => ∃ b c, e = .returned (.tuple #[.slice b l.length c, .bool true]) ∧ Rd w' w'.heap.size b (bv l) ∧ Below w.heap.size w w' :=
  (octUnwrap mark A n c bs w hA hn hnc hmx).mono fun e w' ⟨h, hw⟩ => by
    rcases h with ⟨body, b, c, h1, _, h3, h4⟩ | ⟨h1, _⟩
    · obtain rfl := wrapB_inj (hb.symm.trans h1)
      exact ⟨b, c, h3, h4, hw⟩
    · exact absurd hb (h1 l hl)
theorem octUnwrapNo (mark : UInt8) (A : Option Addr) (n c : Nat) (bs : List UInt8) (w : World) (hb : ∀ body : List UInt8, body.length < 4294967296 → bs ≠ wrapB mark body) (hA : Rd w w.heap.size A (bv bs)) (hn : bs.length = n) (hnc : n ≤ c) (hmx : n ≤ 140737488355000) :
    Calls Tryz.prog 27 #[.int .u8 mark.toNat, .slice A n c] w fun e w' => ∃ v, e = .returned (.tuple #[v, .bool false]) ∧ Below w.heap.size w w' :=
  (octUnwrap mark A n c bs w hA hn hnc hmx).mono fun e w' ⟨h, hw⟩ => by
    rcases h with ⟨body, b, c, h1, h2, _⟩ | ⟨_, v, h3⟩
    · exact absurd h1 (hb body h2)
    · exact ⟨v, h3, hw⟩

/-- What Decode knows ahead of its manifest: the reader, the box of it, the answer's place. -/
structure DN (w : World) (p nb : Nat) (l : List UInt8) (s : RSt) (W : World) : Prop where
  rd : ORd W p l s
  below : Below w.heap.size w W
  res : Box W w.heap.size 25 #[.int .i64 0, .int .i64 0, .int .i64 0, .int .i64 0, .int .i64 0, .slice none 0 0, .slice none 0 0]
  nbx : Box W nb 72 #[.pointer (some ⟨p, 0, none⟩)]
  ord : w.heap.size < p ∧ p < nb
section
variable {w W W' : World} {p nb : Nat} {l : List UInt8} {s s' : RSt}
theorem DN.chg {S : Nat → Prop} (d : DN w p nb l s W) (hc : Chg S W W') (hS : ∀ k, S k → nb < k) : DN w p nb l s W' := by
  obtain ⟨o1, o2⟩ := d.ord
  exact ⟨d.rd.chg hc fun k hk => by have := hS k hk; omega, d.below.trans (hc.below d.below.size fun k hk => by have := hS k hk; omega), d.res.chg hc fun e => by have := hS _ e; omega, d.nbx.chg hc fun e => by have := hS _ e; omega, d.ord⟩
theorem DN.next (d : DN w p nb l s W) (hb : Below W.heap.size W W') : DN w p nb l s W' := d.chg (Chg.of_below hb fun _ => False) fun _ e => e.elim
theorem DN.ncell (d : DN w p nb l s W) : W.cell? ⟨nb, 0, none⟩ = some (.pointer (some ⟨p, 0, none⟩)) := d.nbx.cell 0
theorem DN.step (d : DN w p nb l s W) (h : RAft p l s' W W') : DN w p nb l s' W' := by
  obtain ⟨o1, o2⟩ := d.ord
  obtain ⟨h1, hc⟩ := h
  exact ⟨h1, d.below.trans (hc.below d.below.size fun k hk => by omega), d.res.chg hc (by omega), d.nbx.chg hc (by omega), d.ord⟩
end

theorem below_drew1 (W : World) : Below W.heap.size W W.drew := ⟨rfl, rfl, rfl, Nat.le_refl _, fun _ _ => rfl⟩
theorem boxAt (W : World) (t : TypeId) (ar : Array Value) {k : Nat} (h : W.heap.size = k) : Box (W.alloc (.cells ar t)) k t ar := by subst h; exact Box.new W t ar
theorem box7 {W : World} {mb : Nat} {t : TypeId} {a0 a1 a2 a3 a4 a5 a6 : Value} (h : Box W mb t #[a0, a1, a2, a3, a4, a5, a6]) (b0 b1 b2 b3 b4 b5 b6 : Value) :
    Box (((((((W.setCell ⟨mb, 0, none⟩ b0).setCell ⟨mb, 1, none⟩ b1).setCell ⟨mb, 2, none⟩ b2).setCell ⟨mb, 3, none⟩ b3).setCell ⟨mb, 4, none⟩ b4).setCell ⟨mb, 5, none⟩ b5).setCell ⟨mb, 6, none⟩ b6) mb t #[b0, b1, b2, b3, b4, b5, b6] := by
  simpa using ((((((h.set_ 0 b0).set_ 1 b1).set_ 2 b2).set_ 3 b3).set_ 4 b4).set_ 5 b5).set_ 6 b6
theorem DN.set7 {w W : World} {p nb mb : Nat} {l : List UInt8} {s : RSt} (d : DN w p nb l s W) (hm : nb < mb) (b0 b1 b2 b3 b4 b5 b6 : Value) :
    DN w p nb l s (((((((W.setCell ⟨mb, 0, none⟩ b0).setCell ⟨mb, 1, none⟩ b1).setCell ⟨mb, 2, none⟩ b2).setCell ⟨mb, 3, none⟩ b3).setCell ⟨mb, 4, none⟩ b4).setCell ⟨mb, 5, none⟩ b5).setCell ⟨mb, 6, none⟩ b6) :=
  d.chg (S := fun k => k = mb) (((((((Chg.refl (fun k => k = mb) W).set1 rfl _ _).set1 rfl _ _).set1 rfl _ _).set1 rfl _ _).set1 rfl _ _).set1 rfl _ _ |>.set1 rfl _ _) fun k hk => by subst hk; exact hm

/-- .. and its manifest: the fields, the two rows. -/
structure DM (w : World) (p nb mb : Nat) (l : List UInt8) (s : RSt) (v1 v2 v3 v4 v5 : Int) (b1 : Option Addr) (k1 c1 : Nat) (b2 : Option Addr) (k2 c2 : Nat) (ss : List Int) (ps : List P3) (W : World) : Prop where
  dn : DN w p nb l s W
  mbx : Box W mb 25 #[.int .i64 v1, .int .i64 v2, .int .i64 v3, .int .i64 v4, .int .i64 v5, .slice b1 k1 c1, .slice b2 k2 c2]
  hm : nb < mb
  r1 : W.ownsRow (mb + 1) 3 1 (.slice b1 k1 c1) k1 (ss.map (.int .i64))
  r2 : W.ownsRow (mb + 1) 55 3 (.slice b2 k2 c2) k2 (ps.flatMap tri)
  dis : ∀ k, (Value.slice b1 k1 c1).ownBlock = some k → (Value.slice b2 k2 c2).ownBlock ≠ some k
section
variable {w W W' w8 : World} {p nb mb k1 c1 k2 c2 : Nat} {l : List UInt8} {s s' : RSt} {v1 v2 v3 v4 v5 : Int} {b1 b2 : Option Addr} {ss : List Int} {ps : List P3}
theorem DM.start (d : DN w p nb l s W) (m : Box W mb 25 #[.int .i64 v1, .int .i64 v2, .int .i64 v3, .int .i64 v4, .int .i64 v5, .slice none 0 0, .slice none 0 0]) (hm : nb < mb) : DM w p nb mb l s v1 v2 v3 v4 v5 none 0 0 none 0 0 [] [] W :=
  ⟨d, m, hm, nil_own _ _ _ _, nil_own _ _ _ _, fun k hk => by cases hk⟩
theorem DM.m5 (d : DM w p nb mb l s v1 v2 v3 v4 v5 b1 k1 c1 b2 k2 c2 ss ps W) : W.cell? ⟨mb, 5, none⟩ = some (.slice b1 k1 c1) := d.mbx.cell 5
theorem DM.m6 (d : DM w p nb mb l s v1 v2 v3 v4 v5 b1 k1 c1 b2 k2 c2 ss ps W) : W.cell? ⟨mb, 6, none⟩ = some (.slice b2 k2 c2) := d.mbx.cell 6
theorem DM.next (d : DM w p nb mb l s v1 v2 v3 v4 v5 b1 k1 c1 b2 k2 c2 ss ps W) (hb : Below W.heap.size W W') : DM w p nb mb l s v1 v2 v3 v4 v5 b1 k1 c1 b2 k2 c2 ss ps W' :=
  ⟨d.dn.next hb, d.mbx.below hb d.mbx.lt, d.hm, ownsRow_block d.r1 fun k hk => hb.block k (d.r1.lt k hk).2, ownsRow_block d.r2 fun k hk => hb.block k (d.r2.lt k hk).2, d.dis⟩
theorem DM.step (d : DM w p nb mb l s v1 v2 v3 v4 v5 b1 k1 c1 b2 k2 c2 ss ps W) (h : RAft p l s' W W') : DM w p nb mb l s' v1 v2 v3 v4 v5 b1 k1 c1 b2 k2 c2 ss ps W' := by
  have o := d.dn.ord
  have hm := d.hm
  exact ⟨d.dn.step h, d.mbx.chg h.2 (by omega), d.hm, ownsRow_block d.r1 fun k hk => h.2.block k (d.r1.lt k hk).2 (by have := (d.r1.lt k hk).1; omega), ownsRow_block d.r2 fun k hk => h.2.block k (d.r2.lt k hk).2 (by have := (d.r2.lt k hk).1; omega), d.dis⟩
/-- A segment is appended, and the slice laid into its field. -/
theorem DM.seg {g cap : Nat} {v : Int} (d : DM w p nb mb l s v1 v2 v3 v4 v5 b1 k1 c1 b2 k2 c2 ss ps W) (hg : W.grownBy w8 (Value.slice b1 k1 c1).ownBlock) (hr : w8.ownsRow (mb + 1) 3 1 (.slice (some ⟨g, 0, none⟩) (k1 + 1) cap) (k1 + 1) (ss.map (.int .i64) ++ [.int .i64 v]))
    (hw : (Value.slice b1 k1 c1).ownBlock = some g ∨ W.heap.size ≤ g) : DM w p nb mb l s v1 v2 v3 v4 v5 (some ⟨g, 0, none⟩) (k1 + 1) cap b2 k2 c2 (ss ++ [v]) ps (w8.setCell ⟨mb, 5, none⟩ (.slice (some ⟨g, 0, none⟩) (k1 + 1) cap)) := by
  have hlt : ∀ k, (Value.slice b1 k1 c1).ownBlock = some k → mb + 1 ≤ k := fun k hk => (d.r1.lt k hk).1
  have hm := d.hm
  have q1 : DN w p nb l s w8 := d.dn.chg (Chg.of_grown hg) fun k hk => by have := hlt k hk.symm; omega
  refine ⟨q1.chg (S := fun k => k = mb) ((Chg.refl (fun k => k = mb) w8).set1 rfl _ _) fun k hk => by omega, ?_, d.hm, ?_, ?_, ?_⟩
  · have := (d.mbx.grown hg fun e => by have := hlt _ e.symm; omega).set_ 5 (.slice (some ⟨g, 0, none⟩) (k1 + 1) cap)
    simpa using this
  · rw [List.map_append]
    exact ownsRow_block hr fun k hk => Below.heap_setCell _ _ _ _ (by show k ≠ mb; have := (hr.lt k hk).1; omega)
  · have h2 : w8.ownsRow (mb + 1) 55 3 (.slice b2 k2 c2) k2 (ps.flatMap tri) := ownsRow_block d.r2 fun k hk => hg.block k (d.r2.lt k hk).2 fun e => d.dis k e.symm hk
    exact ownsRow_block h2 fun k hk => Below.heap_setCell _ _ _ _ (by show k ≠ mb; have := (h2.lt k hk).1; omega)
  · intro k hk
    cases hk
    rcases hw with h | h
    · exact d.dis g h
    · intro e; have h2 : g < W.heap.size := (d.r2.lt g e).2; omega
/-- A producer is appended, and the slice laid into its field. -/
theorem DM.prod {g cap : Nat} {q : P3} (d : DM w p nb mb l s v1 v2 v3 v4 v5 b1 k1 c1 b2 k2 c2 ss ps W) (hg : W.grownBy w8 (Value.slice b2 k2 c2).ownBlock) (hr : w8.ownsRow (mb + 1) 55 3 (.slice (some ⟨g, 0, none⟩) (k2 + 1) cap) (k2 + 1) (ps.flatMap tri ++ tri q))
    (hw : (Value.slice b2 k2 c2).ownBlock = some g ∨ W.heap.size ≤ g) : DM w p nb mb l s v1 v2 v3 v4 v5 b1 k1 c1 (some ⟨g, 0, none⟩) (k2 + 1) cap ss (ps ++ [q]) (w8.setCell ⟨mb, 6, none⟩ (.slice (some ⟨g, 0, none⟩) (k2 + 1) cap)) := by
  have hlt : ∀ k, (Value.slice b2 k2 c2).ownBlock = some k → mb + 1 ≤ k := fun k hk => (d.r2.lt k hk).1
  have hm := d.hm
  have q1 : DN w p nb l s w8 := d.dn.chg (Chg.of_grown hg) fun k hk => by have := hlt k hk.symm; omega
  refine ⟨q1.chg (S := fun k => k = mb) ((Chg.refl (fun k => k = mb) w8).set1 rfl _ _) fun k hk => by omega, ?_, d.hm, ?_, ?_, ?_⟩
  · have := (d.mbx.grown hg fun e => by have := hlt _ e.symm; omega).set_ 6 (.slice (some ⟨g, 0, none⟩) (k2 + 1) cap)
    simpa using this
  · have h2 : w8.ownsRow (mb + 1) 3 1 (.slice b1 k1 c1) k1 (ss.map (.int .i64)) := ownsRow_block d.r1 fun k hk => hg.block k (d.r1.lt k hk).2 fun e => d.dis k hk e.symm
    exact ownsRow_block h2 fun k hk => Below.heap_setCell _ _ _ _ (by show k ≠ mb; have := (h2.lt k hk).1; omega)
  · rw [List.flatMap_append]
    have h3 : (ps.flatMap tri ++ [q].flatMap tri) = ps.flatMap tri ++ tri q := by simp
    rw [h3]
    exact ownsRow_block hr fun k hk => Below.heap_setCell _ _ _ _ (by show k ≠ mb; have := (hr.lt k hk).1; omega)
  · intro k hk e
    have e2 : g = k := by simpa [Value.ownBlock] using e
    subst e2
    rcases hw with h | h
    · exact d.dis _ hk h
    · have h2 : g < W.heap.size := (d.r1.lt _ hk).2
      omega
end
theorem numsM_6 {id ns nx mk cl a b c d e : Int} {segs : List Int} {prods : List P3} {ys : List Int} (h : numsM id ns nx mk cl segs prods = [a, b, c, d, e] ++ ys) : ys = (segs.length : Int) :: (segs ++ ((prods.length : Int) :: prods.flatMap flat3)) := by
  simp only [numsM, List.cons_append, List.nil_append, List.cons.injEq] at h
  exact h.2.2.2.2.2.symm
theorem can_seg {v1 v2 v3 v4 v5 : Int} {n1 k : Nat} {ss : List Int} (hk : k < n1) (hl : ss.length = k) : ∀ id ns nx mk cl segs prods ys, manR id ns nx mk cl segs prods = true → numsM id ns nx mk cl segs prods = ([v1, v2, v3, v4, v5, (n1 : Int)] ++ ss) ++ ys → ys ≠ [] := by
  intro id ns nx mk cl segs prods ys _ he hy
  subst hy
  have h := numsM_6 (a := v1) (b := v2) (c := v3) (d := v4) (e := v5) (ys := (n1 : Int) :: (ss ++ [])) (by rw [he]; simp)
  have h2 := congrArg List.length h
  simp only [List.cons.injEq] at h
  have h3 := h.1
  simp at h2
  omega
theorem can6 {l : List UInt8} {s1 s2 s3 s4 s5 s6 : RSt} {v1 v2 v3 v4 v5 n1 : Nat} (h1 : nxS l ⟨0, false⟩ = (v1, s1)) (h2 : nxS l s1 = (v2, s2)) (h3 : nxS l s2 = (v3, s3)) (h4 : nxS l s3 = (v4, s4)) (h5 : nxS l s4 = (v5, s5)) (h6 : cnS 64 l s5 = (n1, s6)) :
    CanM l s6 ([(v1 : Int), v2, v3, v4, v5, n1] ++ []) := by
  have hl : ∀ xs : List Int, xs.length < 7 → ∀ id ns nx mk cl segs prods ys, manR id ns nx mk cl segs prods = true → numsM id ns nx mk cl segs prods = xs ++ ys → ys ≠ [] := by
    intro xs hx id ns nx mk cl segs prods ys _ he hy
    have := congrArg List.length he
    rw [numsM_len, List.length_append, hy] at this
    simp at this; omega
  have c5 := ((((((CanM.start l).next h1 (hl _ (by decide))).next h2 (hl _ (by simp))).next h3 (hl _ (by simp))).next h4 (hl _ (by simp))).next h5 (hl _ (by simp)))
  refine c5.count h6 fun id ns nx mk cl segs prods ys hr he => ?_
  have e := numsM_6 he
  exact ⟨_, _, e, by have := (manR_facts hr).2.2.1; omega⟩

/-- Every number of it is small. -/
def Sm (ss : List Int) : Prop := ∀ x ∈ ss, 0 ≤ x ∧ x < 4611686018427387904
theorem Sm.nil : Sm [] := fun x h => by cases h
theorem Sm.next {ss : List Int} {l : List UInt8} {s s' : RSt} {v : Nat} (h : Sm ss) (hu : nxS l s = (v, s')) : Sm (ss ++ [(v : Int)]) := fun x hx => by
  have := nxS_lt l s
  rw [hu] at this
  simp only [List.mem_append, List.mem_singleton] at hx
  rcases hx with hx | rfl
  · exact h x hx
  · exact ⟨by omega, by simp only at this; omega⟩
theorem Sm.wf {ss : List Int} (h : Sm ss) : ∀ s ∈ ss, (Lit.int .i64 s).wf = true := fun x hx => by
  obtain ⟨h1, h2⟩ := h x hx
  exact WalkArith.wf_i64 ⟨by omega, by omega⟩
theorem ownsRow_low {w : World} {base base' : Nat} {e : TypeId} {size : Nat} {v : Value} {n : Nat} {xs : List Value} (h : w.ownsRow base e size v n xs) (hb : base' ≤ base) : w.ownsRow base' e size v n xs :=
  ⟨h.1, h.2.imp id fun ⟨g, cap, cur, a, b, r⟩ => ⟨g, cap, cur, a, Nat.le_trans hb b, r⟩⟩
theorem dman_yes {bs l : List UInt8} {w W W' : World} {p nb mb k1 c1 k2 c2 : Nat} {st : RSt} {v1 v2 v3 v4 v5 : Int} {b1 b2 : Option Addr} {ss : List Int} {ps : List P3} (d : DM w p nb mb l st v1 v2 v3 v4 v5 b1 k1 c1 b2 k2 c2 ss ps W)
    (hs : ss.length = k1) (hp : ps.length = k2) (hco : ConM l st (numsM v1 v2 v3 v4 v5 ss ps)) (hca : CanM l st (numsM v1 v2 v3 v4 v5 ss ps)) (hle : st.at_ ≤ l.length) (hE : st.fl = false ∧ st.at_ = l.length) (hr : manR v1 v2 v3 v4 v5 ss ps = true) (hbl : bs = wrapB 179 l)
    (hc : Chg (fun k => k = w.heap.size) W W') : DMan bs w W' (.returned (.tuple #[manV v1 v2 v3 v4 v5 (.slice b1 k1 c1) (.slice b2 k2 c2), .int .i64 0])) := by
  have o := d.dn.ord
  have hm := d.hm
  subst hs; subst hp
  refine .inl ⟨v1, v2, v3, v4, v5, ss, ps, b1, c1, b2, c2, hr, ?_, ?_, rfl, ?_, ?_, d.dis⟩
  · rw [hbl]; exact man_end hco hE.1 hE.2 hr
  · intro id' ns' nx' mk' cl' segs' prods' hr' he'
    exact (man_only hca hle hr' (he'.trans hbl)).1
  · exact ownsRow_low (ownsRow_block d.r1 fun k hk => hc.block k (d.r1.lt k hk).2 (by have := (d.r1.lt k hk).1; omega)) (by omega)
  · exact ownsRow_low (ownsRow_block d.r2 fun k hk => hc.block k (d.r2.lt k hk).2 (by have := (d.r2.lt k hk).1; omega)) (by omega)
theorem chg7 (W : World) (B : Nat) (b0 b1 b2 b3 b4 b5 b6 : Value) : Chg (fun k => k = B) W (((((((W.setCell ⟨B, 0, none⟩ b0).setCell ⟨B, 1, none⟩ b1).setCell ⟨B, 2, none⟩ b2).setCell ⟨B, 3, none⟩ b3).setCell ⟨B, 4, none⟩ b4).setCell ⟨B, 5, none⟩ b5).setCell ⟨B, 6, none⟩ b6) :=
  (((((((Chg.refl (fun k => k = B) W).set1 rfl _ _).set1 rfl _ _).set1 rfl _ _).set1 rfl _ _).set1 rfl _ _).set1 rfl _ _ |>.set1 rfl _ _)
theorem can_np {v1 v2 v3 v4 v5 : Int} {n1 : Nat} {ss : List Int} (hl : ss.length = n1) : ∀ id ns nx mk cl segs prods ys, manR id ns nx mk cl segs prods = true → numsM id ns nx mk cl segs prods = ([v1, v2, v3, v4, v5, (n1 : Int)] ++ ss) ++ ys → ∃ y zs, ys = y :: zs ∧ y ≤ (64 : Int) := by
  intro id ns nx mk cl segs prods ys hr he
  have h := numsM_6 (a := v1) (b := v2) (c := v3) (d := v4) (e := v5) (ys := (n1 : Int) :: (ss ++ ys)) (by rw [he]; simp)
  simp only [List.cons.injEq] at h
  obtain ⟨h1, h2⟩ := h
  obtain ⟨_, h3⟩ := List.append_inj h2 (by omega)
  exact ⟨_, _, h3, by have := (manR_facts hr).2.2.2.1; omega⟩
theorem can_pr {v1 v2 v3 v4 v5 : Int} {n1 n2 : Nat} {ss zs : List Int} (hl : ss.length = n1) (hz : zs.length < 3 * n2) : ∀ id ns nx mk cl segs prods ys, manR id ns nx mk cl segs prods = true → numsM id ns nx mk cl segs prods = ((([v1, v2, v3, v4, v5, (n1 : Int)] ++ ss) ++ [(n2 : Int)]) ++ zs) ++ ys → ys ≠ [] := by
  intro id ns nx mk cl segs prods ys hr he hy
  subst hy
  have h := numsM_6 (a := v1) (b := v2) (c := v3) (d := v4) (e := v5) (ys := (n1 : Int) :: (ss ++ ((n2 : Int) :: zs))) (by rw [he]; simp)
  simp only [List.cons.injEq] at h
  obtain ⟨h1, h2⟩ := h
  obtain ⟨_, h3⟩ := List.append_inj h2 (by omega)
  simp only [List.cons.injEq] at h3
  have h4 := congrArg List.length h3.2
  rw [flat3_len] at h4
  omega
theorem prods_con {l : List UInt8} {st t1 t2 t3 : RSt} {x1 x2 x3 : Nat} {zs : List Int} {ps : List P3} (h1 : nxS l st = (x1, t1)) (h2 : nxS l t1 = (x2, t2)) (h3 : nxS l t2 = (x3, t3)) (h : ConM l st (zs ++ ps.flatMap flat3)) : ConM l t3 (zs ++ (ps ++ [((x1 : Int), (x2 : Int), (x3 : Int))]).flatMap flat3) := by
  have := ((h.next h1).next h2).next h3
  simpa [flat3] using this
theorem prods_can {v1 v2 v3 v4 v5 : Int} {n1 n2 k : Nat} {ss : List Int} {l : List UInt8} {st t1 t2 t3 : RSt} {x1 x2 x3 : Nat} {ps : List P3} (hk : k < n2) (hl : ss.length = n1) (hp : ps.length = k) (h1 : nxS l st = (x1, t1)) (h2 : nxS l t1 = (x2, t2)) (h3 : nxS l t2 = (x3, t3))
    (h : CanM l st ((([v1, v2, v3, v4, v5, (n1 : Int)] ++ ss) ++ [(n2 : Int)]) ++ ps.flatMap flat3)) : CanM l t3 ((([v1, v2, v3, v4, v5, (n1 : Int)] ++ ss) ++ [(n2 : Int)]) ++ (ps ++ [((x1 : Int), (x2 : Int), (x3 : Int))]).flatMap flat3) := by
  have hz := flat3_len ps
  have q1 := h.next h1 (can_pr hl (by omega))
  have q2 := q1.next h2 (by rw [List.append_assoc]; exact can_pr hl (by simp only [List.length_append, List.length_cons, List.length_nil, hz]; omega))
  have q3 := q2.next h3 (by rw [List.append_assoc, List.append_assoc]; exact can_pr hl (by simp only [List.length_append, List.length_cons, List.length_nil, hz]; omega))
  simpa [flat3] using q3
theorem numsM_fin {v1 v2 v3 v4 v5 : Int} {n1 n2 : Nat} {ss : List Int} {ps : List P3} (hl : ss.length = n1) (hp : ps.length = n2) : (([v1, v2, v3, v4, v5, (n1 : Int)] ++ ss) ++ [(n2 : Int)]) ++ ps.flatMap flat3 = numsM v1 v2 v3 v4 v5 ss ps := by
  subst hl; subst hp
  simp [numsM]

set_option maxRecDepth 100000 in
set_option maxHeartbeats 16000000 in
theorem manDecode (A : Option Addr) (n c : Nat) (bs : List UInt8) (w : World) (hA : Rd w w.heap.size A (bv bs)) (hn : bs.length = n) (hnc : n ≤ c) (hmx : n ≤ 140737488355000) :
    Calls Tryz.prog 9 #[.slice A n c] w fun e w' => DMan bs w w' e ∧ Below w.heap.size w w' := by
  have hb0 : Below w.heap.size w (w.alloc (.cells #[.int .i64 0, .int .i64 0, .int .i64 0, .int .i64 0, .int .i64 0, .slice none 0 0, .slice none 0 0] 25)) := (Below.refl _ _).alloc (Nat.le_refl _) _
  have HB := Lib.hid hb0
  have HA := Lib.hid (hA.below hb0)
  have Hn := Lib.hid hn
  have HR0 := Lib.hid (Box.new w 25 #[.int .i64 0, .int .i64 0, .int .i64 0, .int .i64 0, .int .i64 0, .slice none 0 0, .slice none 0 0])
  by_cases hx : ∃ l : List UInt8, l.length < 4294967296 ∧ bs = wrapB 179 l
  case neg =>
    have HN : Hid (∀ body : List UInt8, body.length < 4294967296 → bs ≠ wrapB 179 body) := fun body h1 h2 => hx ⟨body, h1, h2⟩
    have HNo : Hid (∀ id ns nx mk cl segs prods, manR id ns nx mk cl segs prods = true → encM id ns nx mk cl segs prods ≠ bs) := fun id ns nx mk cl segs prods hr he => by
      have h1 := bodyM_len hr
      rw [encM, if_pos hr] at he
      exact HN.out _ (by omega) he.symm
    clear hx hA hn hb0
    go_enter Tryz.func9, Tryz.ntmps9
    go_wp2_with (go_at_call 27; refine (octUnwrapNo 179 A n c bs _ HN.out (HA.out.mono (by simp)) Hn.out hnc hmx).mono ?_; rintro e w1 ⟨v, rfl, hb1⟩; have hz := HR0.out.below hb1 (by simp); have hzc := hz.cell; have hzl := hz.lt; have hzf := hz.free; have HB1 := Lib.hid (HB.out.trans (hb1.mono (by simp))); clear hb1 hz)
    refine bodyPost_ret (v := .tuple #[manV 0 0 0 0 0 (.slice none 0 0) (.slice none 0 0), .int .i64 72]) ?_ rfl ?_
    · simp [results, Tryz.results9, go_sem, hzc]
    refine ⟨.inr ⟨HNo.out, rfl⟩, ?_⟩
    repeat (first | with_reducible exact HB1.out | refine Below.setCell ?_ (by simp) _)
  obtain ⟨i0, hi0, hz0, hs0, hy0⟩ := info_parts info_int
  obtain ⟨i1, hi1, hz1, hs1, hy1⟩ := info_parts info_prod
  obtain ⟨l, hl32, hbl⟩ := hx
  have Hbl := Lib.hid hbl
  have hlx : l.length ≤ 4294967296 := by omega
  have Hlx : Hid (l.length ≤ 140737488355328) := by show _ ≤ _; omega
  clear hbl hA hn hb0
  rcases h1 : nxS l ⟨0, false⟩ with ⟨v1, s1⟩
  rcases h2 : nxS l s1 with ⟨v2, s2⟩
  rcases h3 : nxS l s2 with ⟨v3, s3⟩
  rcases h4 : nxS l s3 with ⟨v4, s4⟩
  rcases h5 : nxS l s4 with ⟨v5, s5⟩
  rcases h6 : cnS 64 l s5 with ⟨n1, s6⟩
  have hn1 : n1 ≤ 64 := by have := cnS_le 64 (l := l) (s := s5); rw [h6] at this; exact this
  have V1 := Lib.hid h1
  have V2 := Lib.hid h2
  have V3 := Lib.hid h3
  have V4 := Lib.hid h4
  have V5 := Lib.hid h5
  have V6 := Lib.hid h6
  clear h1 h2 h3 h4 h5 h6
  go_enter Tryz.func9, Tryz.ntmps9
  go_upto_region 5 with (first
    | (go_at_call 27; refine (octUnwrapYes 179 A n c bs l _ Hbl.out hl32 (HA.out.mono (by simp)) Hn.out hnc hmx).mono ?_; rintro e w1 ⟨bb, cb, rfl, hrd, hb1⟩; have K1 := Lib.hid (And.intro hrd (And.intro (HB.out.trans (hb1.mono (by simp))) (HR0.out.below hb1 (by simp)))); clear hrd hb1)
    | (go_at_call 28; refine (octNewR bb l.length cb l _ K1.out.1 rfl Hlx.out).mono ?_; rintro e w2 ⟨p, rfl, hR, hp, hb2⟩; have hwp := K1.out.2.2.lt; have hpl := hR.lt; have D0 := Lib.hid (show DN w p w2.heap.size l ⟨0, false⟩ (w2.alloc (.cells #[.pointer (some ⟨p, 0, none⟩)] 72)) from ⟨hR.below (Below.al' _ _), (K1.out.2.1.trans (hb2.mono K1.out.2.1.size)).alloc (Nat.le_trans K1.out.2.1.size hb2.size) _, (K1.out.2.2.below hb2 hwp).alloc _, Box.new _ _ _, by omega, hpl⟩); clear hR hb2 K1))
  go_cut [7] (fun s7 wx => ∃ mb : Nat, s7 = .pointer (some ⟨mb, 0, none⟩) ∧ DN w p w2.heap.size l s5 wx ∧ Box wx mb 25 #[.int .i64 v1, .int .i64 v2, .int .i64 v3, .int .i64 v4, .int .i64 v5, .slice none 0 0, .slice none 0 0] ∧ w2.heap.size < mb)
  case first =>
    have R0 := D0
    have D0' := Lib.hid (R0.out.next (below_drew1 _))
    clear D0
    have D0 := D0'
    clear D0'
    go_region_held3 (fun w' => w'.cell? ⟨w2.heap.size, 0, none⟩ = some (.pointer (some ⟨p, 0, none⟩)))
      (first | with_reducible exact D0.out.ncell | with_reducible exact ((R0.out.next (Below.al' _ _)).next (below_drew1 _)).ncell | with_reducible exact D1.out.ncell | with_reducible exact (D1.out.next (Below.al' _ _)).ncell | with_reducible exact E1.out.1.ncell | with_reducible exact D2.out.ncell | with_reducible exact (D2.out.next (Below.al' _ _)).ncell | with_reducible exact E2.out.1.ncell | with_reducible exact D3.out.ncell | with_reducible exact (D3.out.next (Below.al' _ _)).ncell | with_reducible exact E3.out.1.ncell | with_reducible exact D4.out.ncell | with_reducible exact (D4.out.next (Below.al' _ _)).ncell | with_reducible exact E4.out.1.ncell | with_reducible exact D5.out.ncell | with_reducible exact (D5.out.next (Below.al' _ _)).ncell | with_reducible exact E5.out.1.ncell | with_reducible exact (E5.out.1.set7 E5.out.2.2 _ _ _ _ _ _ _).ncell | fail)
      (first
      | (go_at_call 29; refine (octNext p l ⟨0, false⟩ _ D0.out.rd Hlx.out).mono ?_; rintro e w3 ⟨he, ha⟩; rw [V1.out] at he ha; simp only at he ha; subst he; have D1 := Lib.hid (D0.out.step ha); clear ha D0)
      | (go_at_call 29; have E0' := Lib.hid (show DN w p w2.heap.size l ⟨0, false⟩ (World.drew (World.alloc (w2.alloc (.cells #[.pointer (some ⟨p, 0, none⟩)] 72)) (.cells #[.int .i64 0, .int .i64 0, .int .i64 0, .int .i64 0, .int .i64 0, .slice none 0 0, .slice none 0 0] 25))) ∧ Box (World.drew (World.alloc (w2.alloc (.cells #[.pointer (some ⟨p, 0, none⟩)] 72)) (.cells #[.int .i64 0, .int .i64 0, .int .i64 0, .int .i64 0, .int .i64 0, .slice none 0 0, .slice none 0 0] 25))) (w2.heap.size + 1) 25 #[.int .i64 0, .int .i64 0, .int .i64 0, .int .i64 0, .int .i64 0, .slice none 0 0, .slice none 0 0] ∧ w2.heap.size < w2.heap.size + 1 from ⟨(R0.out.next (Below.al' _ _)).next (below_drew1 _), (boxAt _ _ _ (World.size_alloc _ _)).drew, Nat.lt_succ_self _⟩); refine (octNext p l ⟨0, false⟩ _ E0'.out.1.rd Hlx.out).mono ?_; rintro e w3 ⟨he, ha⟩; rw [V1.out] at he ha; simp only at he ha; subst he; have E1 := Lib.hid (And.intro (E0'.out.1.step ha) (And.intro (E0'.out.2.1.chg ha.2 (by have := E0'.out.1.ord.2; have := E0'.out.2.2; omega)) E0'.out.2.2)); have hec1 := E1.out.2.1.cell; have hef1 := E1.out.2.1.free; have hel1 := E1.out.2.1.lt; clear ha D0 E0')
      | (go_at_call 29; (with_reducible refine (octNext p l s1 _ D1.out.rd Hlx.out).mono ?_); rintro e w4 ⟨he, ha⟩; rw [V2.out] at he ha; simp only at he ha; subst he; have D2 := Lib.hid (D1.out.step ha); clear ha D1)
      | (go_at_call 29; have E0' := Lib.hid (show DN w p w2.heap.size l s1 (World.alloc w3 (.cells #[.int .i64 0, .int .i64 0, .int .i64 0, .int .i64 0, .int .i64 0, .slice none 0 0, .slice none 0 0] 25)) ∧ Box (World.alloc w3 (.cells #[.int .i64 0, .int .i64 0, .int .i64 0, .int .i64 0, .int .i64 0, .slice none 0 0, .slice none 0 0] 25)) (World.heap w3).size 25 #[.int .i64 0, .int .i64 0, .int .i64 0, .int .i64 0, .int .i64 0, .slice none 0 0, .slice none 0 0] ∧ w2.heap.size < (World.heap w3).size from ⟨D1.out.next (Below.al' _ _), Box.new _ _ _, D1.out.nbx.lt⟩); (with_reducible refine (octNext p l s1 _ E0'.out.1.rd Hlx.out).mono ?_); rintro e w4 ⟨he, ha⟩; rw [V2.out] at he ha; simp only at he ha; subst he; have E2 := Lib.hid (And.intro (E0'.out.1.step ha) (And.intro (E0'.out.2.1.chg ha.2 (by have := E0'.out.1.ord.2; have := E0'.out.2.2; omega)) E0'.out.2.2)); have hec2 := E2.out.2.1.cell; have hef2 := E2.out.2.1.free; have hel2 := E2.out.2.1.lt; clear ha D1 E0')
      | (go_at_call 29; (with_reducible refine (octNext p l s1 _ E1.out.1.rd Hlx.out).mono ?_); rintro e w4 ⟨he, ha⟩; rw [V2.out] at he ha; simp only at he ha; subst he; have E2 := Lib.hid (And.intro (E1.out.1.step ha) (And.intro (E1.out.2.1.chg ha.2 (by have := E1.out.1.ord.2; have := E1.out.2.2; omega)) E1.out.2.2)); have hec2 := E2.out.2.1.cell; have hef2 := E2.out.2.1.free; have hel2 := E2.out.2.1.lt; clear ha E1 hec1 hef1 hel1)
      | (go_at_call 29; (with_reducible refine (octNext p l s2 _ D2.out.rd Hlx.out).mono ?_); rintro e w5 ⟨he, ha⟩; rw [V3.out] at he ha; simp only at he ha; subst he; have D3 := Lib.hid (D2.out.step ha); clear ha D2)
      | (go_at_call 29; have E0' := Lib.hid (show DN w p w2.heap.size l s2 (World.alloc w4 (.cells #[.int .i64 0, .int .i64 0, .int .i64 0, .int .i64 0, .int .i64 0, .slice none 0 0, .slice none 0 0] 25)) ∧ Box (World.alloc w4 (.cells #[.int .i64 0, .int .i64 0, .int .i64 0, .int .i64 0, .int .i64 0, .slice none 0 0, .slice none 0 0] 25)) (World.heap w4).size 25 #[.int .i64 0, .int .i64 0, .int .i64 0, .int .i64 0, .int .i64 0, .slice none 0 0, .slice none 0 0] ∧ w2.heap.size < (World.heap w4).size from ⟨D2.out.next (Below.al' _ _), Box.new _ _ _, D2.out.nbx.lt⟩); (with_reducible refine (octNext p l s2 _ E0'.out.1.rd Hlx.out).mono ?_); rintro e w5 ⟨he, ha⟩; rw [V3.out] at he ha; simp only at he ha; subst he; have E3 := Lib.hid (And.intro (E0'.out.1.step ha) (And.intro (E0'.out.2.1.chg ha.2 (by have := E0'.out.1.ord.2; have := E0'.out.2.2; omega)) E0'.out.2.2)); have hec3 := E3.out.2.1.cell; have hef3 := E3.out.2.1.free; have hel3 := E3.out.2.1.lt; clear ha D2 E0')
      | (go_at_call 29; (with_reducible refine (octNext p l s2 _ E2.out.1.rd Hlx.out).mono ?_); rintro e w5 ⟨he, ha⟩; rw [V3.out] at he ha; simp only at he ha; subst he; have E3 := Lib.hid (And.intro (E2.out.1.step ha) (And.intro (E2.out.2.1.chg ha.2 (by have := E2.out.1.ord.2; have := E2.out.2.2; omega)) E2.out.2.2)); have hec3 := E3.out.2.1.cell; have hef3 := E3.out.2.1.free; have hel3 := E3.out.2.1.lt; clear ha E2 hec2 hef2 hel2)
      | (go_at_call 29; (with_reducible refine (octNext p l s3 _ D3.out.rd Hlx.out).mono ?_); rintro e w6 ⟨he, ha⟩; rw [V4.out] at he ha; simp only at he ha; subst he; have D4 := Lib.hid (D3.out.step ha); clear ha D3)
      | (go_at_call 29; have E0' := Lib.hid (show DN w p w2.heap.size l s3 (World.alloc w5 (.cells #[.int .i64 0, .int .i64 0, .int .i64 0, .int .i64 0, .int .i64 0, .slice none 0 0, .slice none 0 0] 25)) ∧ Box (World.alloc w5 (.cells #[.int .i64 0, .int .i64 0, .int .i64 0, .int .i64 0, .int .i64 0, .slice none 0 0, .slice none 0 0] 25)) (World.heap w5).size 25 #[.int .i64 0, .int .i64 0, .int .i64 0, .int .i64 0, .int .i64 0, .slice none 0 0, .slice none 0 0] ∧ w2.heap.size < (World.heap w5).size from ⟨D3.out.next (Below.al' _ _), Box.new _ _ _, D3.out.nbx.lt⟩); (with_reducible refine (octNext p l s3 _ E0'.out.1.rd Hlx.out).mono ?_); rintro e w6 ⟨he, ha⟩; rw [V4.out] at he ha; simp only at he ha; subst he; have E4 := Lib.hid (And.intro (E0'.out.1.step ha) (And.intro (E0'.out.2.1.chg ha.2 (by have := E0'.out.1.ord.2; have := E0'.out.2.2; omega)) E0'.out.2.2)); have hec4 := E4.out.2.1.cell; have hef4 := E4.out.2.1.free; have hel4 := E4.out.2.1.lt; clear ha D3 E0')
      | (go_at_call 29; (with_reducible refine (octNext p l s3 _ E3.out.1.rd Hlx.out).mono ?_); rintro e w6 ⟨he, ha⟩; rw [V4.out] at he ha; simp only at he ha; subst he; have E4 := Lib.hid (And.intro (E3.out.1.step ha) (And.intro (E3.out.2.1.chg ha.2 (by have := E3.out.1.ord.2; have := E3.out.2.2; omega)) E3.out.2.2)); have hec4 := E4.out.2.1.cell; have hef4 := E4.out.2.1.free; have hel4 := E4.out.2.1.lt; clear ha E3 hec3 hef3 hel3)
      | (go_at_call 29; (with_reducible refine (octNext p l s4 _ D4.out.rd Hlx.out).mono ?_); rintro e w7 ⟨he, ha⟩; rw [V5.out] at he ha; simp only at he ha; subst he; have D5 := Lib.hid (D4.out.step ha); clear ha D4)
      | (go_at_call 29; have E0' := Lib.hid (show DN w p w2.heap.size l s4 (World.alloc w6 (.cells #[.int .i64 0, .int .i64 0, .int .i64 0, .int .i64 0, .int .i64 0, .slice none 0 0, .slice none 0 0] 25)) ∧ Box (World.alloc w6 (.cells #[.int .i64 0, .int .i64 0, .int .i64 0, .int .i64 0, .int .i64 0, .slice none 0 0, .slice none 0 0] 25)) (World.heap w6).size 25 #[.int .i64 0, .int .i64 0, .int .i64 0, .int .i64 0, .int .i64 0, .slice none 0 0, .slice none 0 0] ∧ w2.heap.size < (World.heap w6).size from ⟨D4.out.next (Below.al' _ _), Box.new _ _ _, D4.out.nbx.lt⟩); (with_reducible refine (octNext p l s4 _ E0'.out.1.rd Hlx.out).mono ?_); rintro e w7 ⟨he, ha⟩; rw [V5.out] at he ha; simp only at he ha; subst he; have E5 := Lib.hid (And.intro (E0'.out.1.step ha) (And.intro (E0'.out.2.1.chg ha.2 (by have := E0'.out.1.ord.2; have := E0'.out.2.2; omega)) E0'.out.2.2)); have hec5 := E5.out.2.1.cell; have hef5 := E5.out.2.1.free; have hel5 := E5.out.2.1.lt; clear ha D4 E0')
      | (go_at_call 29; (with_reducible refine (octNext p l s4 _ E4.out.1.rd Hlx.out).mono ?_); rintro e w7 ⟨he, ha⟩; rw [V5.out] at he ha; simp only at he ha; subst he; have E5 := Lib.hid (And.intro (E4.out.1.step ha) (And.intro (E4.out.2.1.chg ha.2 (by have := E4.out.1.ord.2; have := E4.out.2.2; omega)) E4.out.2.2)); have hec5 := E5.out.2.1.cell; have hef5 := E5.out.2.1.free; have hel5 := E5.out.2.1.lt; clear ha E4 hec4 hef4 hel4))
    all_goals (go_wp2_with fail; go_meet; first
      | exact ⟨_, rfl, E5.out.1.set7 E5.out.2.2 _ _ _ _ _ _ _, box7 E5.out.2.1 _ _ _ _ _ _ _, E5.out.2.2⟩
      | exact ⟨_, rfl, D5.out.next (Below.al' _ _), Box.new _ _ _, D5.out.nbx.lt⟩)
  case rest =>
    obtain ⟨mb, rfl, hD, hM, hmb⟩ := hcut
    have hnc6 := hD.ncell
    have hM6 := hM.cell
    have DX := Lib.hid hD
    have MX := Lib.hid hM
    have hwl := hD.res.lt
    have hnl := hD.nbx.lt
    clear hD hM
    go_wp2_with (go_at_call 30; refine (octCount p 64 (by omega) l s5 _ DX.out.rd Hlx.out).mono ?_; rintro e w8 ⟨he, ha⟩; rw [V6.out] at he ha; simp only at he ha; subst he; have hM8 := MX.out.chg ha.2 (by have := DX.out.ord.2; omega); have D8 := Lib.hid (DX.out.step ha); have M8 := Lib.hid hM8; clear ha DX MX hnc6 hM6 hM8)
    go_loopw [32] (fun i wr => ∃ (k : Nat) (ss : List Int) (b : Option Addr) (cc : Nat) (s : RSt), k ≤ n1 ∧ i = .int .i64 k ∧ ss.length = k ∧ DM w p w2.heap.size mb l s v1 v2 v3 v4 v5 b k cc none 0 0 ss [] wr ∧ ConM l s ([(v1 : Int), v2, v3, v4, v5, n1] ++ ss) ∧ CanM l s ([(v1 : Int), v2, v3, v4, v5, n1] ++ ss) ∧ Sm ss)
      (fun i _ => n1 - (intOf i).toNat)
    case atStart =>
      refine ⟨0, [], none, 0, s6, Nat.zero_le _, rfl, rfl, DM.start D8.out M8.out hmb, ?_, ?_, Sm.nil⟩
      · exact (((((ConM.start l).next V1.out).next V2.out).next V3.out).next V4.out).next V5.out |>.count V6.out
      · exact can6 V1.out V2.out V3.out V4.out V5.out V6.out
    case round =>
      clear D8 M8
      obtain ⟨k, ss, b, cc, s, hk, rfl, hsl, hD, hCo, hCa, hSm⟩ := hrel
      have HD := Lib.hid hD
      have HL := Lib.hid (And.intro hsl (And.intro hCo (And.intro hCa hSm)))
      have hmc := hD.m5
      have hncl := hD.dn.ncell
      have hml := hD.mbx.lt
      have hmf := hD.mbx.free
      clear hD hsl hCo hCa hSm
      by_cases hlt : k < n1
      · rcases hv : nxS l s with ⟨v, s'⟩
        have HV := Lib.hid hv
        clear hv
        go_wp2
        have HDd := Lib.hid (HD.out.next (below_drew1 _))
        go_region_law
          (first
            | (go_simp
               go_at_call 29
               refine (octNext p l s _ HDd.out.dn.rd Hlx.out).mono ?_
               rintro e w3 ⟨he, ha⟩
               rw [HV.out] at he ha
               simp only at he ha
               subst he
               have hd := HDd.out.step ha
               have hnc3 := hd.dn.ncell
               have hm3 := hd.m5
               have hf3 := hd.mbx.free
               have hl3 := hd.mbx.lt
               have D1 := Lib.hid hd
               clear ha hd HDd)
            | ((refine step_append_lies _ (by rfl) _ _ _ (by rfl) (mb + 1) 3 i0 _ 1 8 Tryz.underlying22 hi0 hz0 hs0 hy0 rfl (by omega) (.slice b k cc) k (ss.map (.int .i64)) (by rfl) (D1.out.next (Below.al' _ _)).r1
                  ⟨w3.heap.size, 0, none⟩ 1 1 [.int .i64 v] (by rfl) (by rfl) (World.news_of_block (cs := #[.int .i64 v]) (t := 3) (fr := (0, 0)) (heap_alloc_new w3 _)) (by simp [Value.oneCell']) (by omega) (by unfold maxLen; omega) (by omega) (by simp; omega) (w3.heap.size + 1) (by simp) ?_
                intro g cap w4 hown hgrow hat hlt4
                have DA := D1.out.next (Below.al' w3 (.cells #[.int .i64 v] 3))
                have gr1 := (DA.dn.chg (Chg.of_grown hgrow) (fun j hj => by have := (DA.r1.lt j hj.symm).1; have := DA.hm; omega)).ncell
                have hq := DA.mbx.grown hgrow (fun e => by have := (DA.r1.lt _ e.symm).1; omega)
                have hqc := hq.cell
                have hqf := hq.free
                have hql := hq.lt
                have D9 := Lib.hid (DA.seg hgrow hown (hat.imp id fun h => by simp; omega))
                clear DA hq hown hgrow hat D1)))
        all_goals
          go_wp2
          go_roundw
          case rel => exact ⟨k + 1, ss ++ [(v : Int)], _, _, s', by omega, by go_num, by simp [HL.out.1], D9.out, by rw [← List.append_assoc]; exact HL.out.2.1.next HV.out, by rw [← List.append_assoc]; exact HL.out.2.2.1.next HV.out (can_seg hlt HL.out.1), HL.out.2.2.2.next HV.out⟩
          case measure => simp [intOf]; omega
      · obtain rfl : k = n1 := by omega
        rcases h7 : cnS 64 l s with ⟨n2, s7⟩
        have hn2 : n2 ≤ 64 := by have := cnS_le 64 (l := l) (s := s); rw [h7] at this; exact this
        have V7 := Lib.hid h7
        clear h7
        go_wp2_with (go_at_call 30; refine (octCount p 64 (by omega) l s _ HD.out.dn.rd Hlx.out).mono ?_; rintro e w9 ⟨he, ha⟩; rw [V7.out] at he ha; simp only at he ha; subst he; have D9 := Lib.hid (HD.out.step ha); clear ha HD hmc hncl hml hmf)
        go_loopw [44] (fun i wr => ∃ (k2 : Nat) (ps : List P3) (b2 : Option Addr) (c2 : Nat) (st : RSt), k2 ≤ n2 ∧ i = .int .i64 k2 ∧ ps.length = k2 ∧ DM w p w2.heap.size mb l st v1 v2 v3 v4 v5 b k cc b2 k2 c2 ss ps wr ∧ ConM l st ((([(v1 : Int), v2, v3, v4, v5, k] ++ ss) ++ [(n2 : Int)]) ++ ps.flatMap flat3) ∧ CanM l st ((([(v1 : Int), v2, v3, v4, v5, k] ++ ss) ++ [(n2 : Int)]) ++ ps.flatMap flat3))
          (fun i _ => n2 - (intOf i).toNat)
        case atStart =>
          refine ⟨0, [], none, 0, s7, Nat.zero_le _, rfl, rfl, D9.out, ?_, ?_⟩
          · simpa using HL.out.2.1.count V7.out
          · simpa using HL.out.2.2.1.count V7.out (can_np HL.out.1)
        case round =>
          clear D9
          obtain ⟨k2, ps, b2, c2, st, hk2, rfl, hpl2, hD, hCo, hCa⟩ := hrel
          have HD := Lib.hid hD
          have HP := Lib.hid (And.intro hpl2 (And.intro hCo hCa))
          have hmc := hD.m6
          have hncl := hD.dn.ncell
          have hml := hD.mbx.lt
          have hmf := hD.mbx.free
          clear hD hpl2 hCo hCa
          by_cases hlt2 : k2 < n2
          · rcases hv1 : nxS l st with ⟨x1, t1⟩
            rcases hv2 : nxS l t1 with ⟨x2, t2⟩
            rcases hv3 : nxS l t2 with ⟨x3, t3⟩
            have X1 := Lib.hid hv1
            have X2 := Lib.hid hv2
            have X3 := Lib.hid hv3
            clear hv1 hv2 hv3
            go_wp2
            have HDd := Lib.hid (HD.out.next (below_drew1 _))
            have hS0 := And.intro HDd.out.dn.ncell HDd.out.m6
            refine WT.start (fun w' => w'.cell? ⟨w2.heap.size, 0, none⟩ = some (.pointer (some ⟨p, 0, none⟩)) ∧ w'.cell? ⟨mb, 6, none⟩ = some (.slice b2 k2 c2)) 12 (by kernel_rfl) ?_
            refine WT.take 0 (v := ?_) rfl (by kernel_rfl) (by kernel_rfl) (by kernel_rfl) (by kernel_rfl) (fun _ _ _ h => h) (Or.inl ⟨by rfl, ?hy⟩) hS0 ?_
            case hy => first | (intro w hSw; go_simp; done) | (intro w hSw; go_simp; with_reducible rfl)
            simp only [Act.put, List.setIfInBounds_toArray, List.set_cons_zero, List.set_cons_succ]
            refine WT.take 1 (v := ?_) rfl (by kernel_rfl) (by kernel_rfl) (by kernel_rfl) (by kernel_rfl) (fun _ _ _ h => h) (Or.inl ⟨by rfl, ?hy⟩) hS0 ?_
            case hy => first | (intro w hSw; go_simp; done) | (intro w hSw; go_simp; with_reducible rfl)
            simp only [Act.put, List.setIfInBounds_toArray, List.set_cons_zero, List.set_cons_succ]
            refine WT.take 2 (v := ?_) rfl (by kernel_rfl) (by kernel_rfl) (by kernel_rfl) (by kernel_rfl) (fun _ _ _ h => h) (Or.inl ⟨by rfl, ?hy⟩) hS0 ?_
            case hy => first | (intro w hSw; go_simp; done) | (intro w hSw; go_simp; with_reducible rfl)
            simp only [Act.put, List.setIfInBounds_toArray, List.set_cons_zero, List.set_cons_succ]
            refine WT.take 4 (v := ?_) rfl (by kernel_rfl) (by kernel_rfl) (by kernel_rfl) (by kernel_rfl) (fun _ _ _ h => h) (Or.inl ⟨by rfl, ?hy⟩) hS0 ?_
            case hy => first | (intro w hSw; go_simp; done) | (intro w hSw; go_simp; with_reducible rfl)
            simp only [Act.put, List.setIfInBounds_toArray, List.set_cons_zero, List.set_cons_succ]
            refine WT.take 6 (v := ?_) rfl (by kernel_rfl) (by kernel_rfl) (by kernel_rfl) (by kernel_rfl) (fun _ _ _ h => h) (Or.inl ⟨by rfl, ?hy⟩) hS0 ?_
            case hy => first | (intro w hSw; go_simp; done) | (intro w hSw; go_simp; with_reducible rfl)
            simp only [Act.put, List.setIfInBounds_toArray, List.set_cons_zero, List.set_cons_succ]
            refine WT.step 3 rfl (by kernel_rfl) (by decide) fun K hK => ?_
            go_simp
            go_at_call 29
            refine (octNext p l st _ HDd.out.dn.rd Hlx.out).mono ?_
            rintro e w10 ⟨he, ha⟩
            rw [X1.out] at he ha
            simp only at he ha
            subst he
            have G1 := Lib.hid (HDd.out.step ha)
            clear ha HDd hS0
            have hS1 := And.intro G1.out.dn.ncell G1.out.m6
            go_simp
            refine hK.out _ _ hS1 ?_
            refine WT.step 5 rfl (by kernel_rfl) (by decide) fun K hK => ?_
            go_simp
            go_at_call 29
            refine (octNext p l t1 _ G1.out.dn.rd Hlx.out).mono ?_
            rintro e w11 ⟨he, ha⟩
            rw [X2.out] at he ha
            simp only at he ha
            subst he
            have G2 := Lib.hid (G1.out.step ha)
            clear ha G1 hS1
            have hS2 := And.intro G2.out.dn.ncell G2.out.m6
            go_simp
            refine hK.out _ _ hS2 ?_
            clear hK K
            refine WT.step 7 rfl (by kernel_rfl) (by decide) fun K hK => ?_
            go_simp
            go_at_call 29
            refine (octNext p l t2 _ G2.out.dn.rd Hlx.out).mono ?_
            rintro e w12 ⟨he, ha⟩
            rw [X3.out] at he ha
            simp only at he ha
            subst he
            have G3 := Lib.hid (G2.out.step ha)
            clear ha G2 hS2
            have hS3 := And.intro G3.out.dn.ncell G3.out.m6
            go_simp
            refine hK.out _ _ hS3 ?_
            clear hK K
            refine WT.step 8 rfl (by kernel_rfl) (by decide) fun K hK => ?_
            go_simp
            refine hK.out _ _ hS3 ?_
            clear hK K
            refine WT.step 9 rfl (by kernel_rfl) (by decide) fun K hK => ?_
            go_simp
            have G4 := Lib.hid (G3.out.next (Below.al' w12 (.cells #[.int .i64 x1, .int .i64 x2, .int .i64 x3] 55)))
            refine hK.out _ _ (And.intro G4.out.dn.ncell G4.out.m6) ?_
            clear hK K
            refine WT.step 10 rfl (by kernel_rfl) (by decide) fun K hK => ?_
            refine step_append_lies _ (by rfl) _ _ _ (by rfl) (mb + 1) 55 i1 _ 3 24 Tryz.underlying23 hi1 hz1 hs1 hy1 rfl (by omega) (.slice b2 k2 c2) k2 (ps.flatMap tri) (by rfl) G4.out.r2
                  ⟨w12.heap.size, 0, none⟩ 1 1 (tri ((x1 : Int), (x2 : Int), (x3 : Int))) (by rfl) (by rfl) (World.news_of_block (cs := #[.int .i64 x1, .int .i64 x2, .int .i64 x3]) (t := 55) (fr := (0, 0)) (heap_alloc_new w12 _)) (by simp [tri, Value.oneCell']) (by omega) (by unfold maxLen; omega) (by omega) (by have := G3.out.mbx.lt; simp; omega) (w12.heap.size + 1) (by simp) ?_
            intro g cap w13 hown hgrow hat hlt4
            have gr1 := (G4.out.dn.chg (Chg.of_grown hgrow) (fun j hj => by have := (G4.out.r2.lt j hj.symm).1; have := G4.out.hm; omega)).ncell
            have hq := G4.out.mbx.grown hgrow (fun e => by have := (G4.out.r2.lt _ e.symm).1; omega)
            have hqc := hq.cell
            have hqf := hq.free
            have hql := hq.lt
            have hq6 : w13.cell? ⟨mb, 6, none⟩ = some (.slice b2 k2 c2) := hq.cell 6
            have D9 := Lib.hid (G4.out.prod hgrow hown (hat.imp id fun h => by simp; omega))
            clear hq hown hgrow hat G4 G3
            go_simp
            refine hK.out _ _ (And.intro gr1 hq6) ?_
            clear hK K
            refine WT.step 11 rfl (by kernel_rfl) (by decide) fun K hK => ?_
            go_simp
            refine hK.out _ _ (And.intro gr1 hq6) ?_
            clear hK K
            refine WT.last 12 rfl (by kernel_rfl) rfl fun K hK => ?_
            go_simp
            refine hK.out _ _ ?_
            clear hK K
            refine WT.done (by kernel_rfl) ?_
            go_wp2
            go_roundw
            case rel => exact ⟨k2 + 1, ps ++ [((x1 : Int), (x2 : Int), (x3 : Int))], _, _, t3, by omega, by go_num, by simp [HP.out.1], D9.out, prods_con X1.out X2.out X3.out HP.out.2.1, prods_can hlt2 HL.out.1 HP.out.1 X1.out X2.out X3.out HP.out.2.2⟩
            case measure => simp [intOf]; omega
          · obtain rfl : k2 = n2 := by omega
            have hle := HD.out.dn.rd.le
            have HF := Lib.hid (show ConM l st (numsM v1 v2 v3 v4 v5 ss ps) ∧ CanM l st (numsM v1 v2 v3 v4 v5 ss ps) by rw [← numsM_fin HL.out.1 HP.out.1]; exact HP.out.2)
            have hrc := HD.out.dn.res.cell
            have hrl := HD.out.dn.res.lt
            have hrf := HD.out.dn.res.free
            have hmk := HD.out.mbx.cell
            have hord := HD.out.dn.ord
            have hfd := field0
            by_cases hE : st.fl = false ∧ st.at_ = l.length
            case neg =>
              have HNo : Hid (∀ id ns nx mk cl segs prods, manR id ns nx mk cl segs prods = true → encM id ns nx mk cl segs prods ≠ bs) := fun id ns nx mk cl segs prods hr he => hE (man_only HF.out.2 hle hr (he.trans Hbl.out)).2
              have HE := Lib.hid hE
              clear hE
              go_wp2_with (go_at_call 31; refine (octEnd p l st _ HD.out.dn.rd).mono ?_; rintro e w10 ⟨x, y, rfl, hx, hb6⟩; have hx0 : x ≠ 0 := (fun h => HE.out (hx.mpr h)); have hxb : (x != 0) = true := (by simpa using hx0); have hd := HD.out.next hb6; have hsc := hd.dn.res.cell; have hsl' := hd.dn.res.lt; have hsf := hd.dn.res.free; have hmk2 := hd.mbx.cell; have hml2 := hd.mbx.lt; have D10 := Lib.hid hd; clear hx hb6 hd)
              refine bodyPost_ret (v := .tuple #[manV 0 0 0 0 0 (.slice none 0 0) (.slice none 0 0), .int .i64 72]) ?_ rfl ?_
              · simp [results, Tryz.results9, go_sem, hsc]
              refine ⟨.inr ⟨HNo.out, rfl⟩, ?_⟩
              repeat (first | with_reducible exact D10.out.dn.below | refine Below.setCell ?_ (by simp) _)
            have HE := Lib.hid hE
            clear hE
            by_cases hr : manR v1 v2 v3 v4 v5 ss ps = true
            case neg =>
              have HNo : Hid (∀ id ns nx mk cl segs prods, manR id ns nx mk cl segs prods = true → encM id ns nx mk cl segs prods ≠ bs) := fun id ns nx mk cl segs prods hr' he => by
                obtain ⟨⟨rfl, rfl, rfl, rfl, rfl, rfl, rfl⟩, _⟩ := man_only HF.out.2 hle hr' (he.trans Hbl.out)
                exact hr hr'
              have HQ := Lib.hid (manE_bad (by simpa using hr))
              clear hr
              go_wp2_with (first
                | (go_at_call 31; refine (octEnd p l st _ HD.out.dn.rd).mono ?_; rintro e w10 ⟨x, y, rfl, hx, hb6⟩; obtain rfl : x = 0 := (hx.mp HE.out); have hd := HD.out.next hb6; have hsc := hd.dn.res.cell; have hsl' := hd.dn.res.lt; have hsf := hd.dn.res.free; have hmk2 := hd.mbx.cell; have hml2 := hd.mbx.lt; have D10 := Lib.hid hd; clear hx hb6 hd)
                | (go_at_call 7; rw [show k = ss.length from HL.out.1.symm, show k2 = ps.length from HP.out.1.symm]; refine (check_any v1 v2 v3 v4 v5 _ _ cc c2 ss ps _ (ownsRow_rd D10.out.r1) (ownsRow_rd D10.out.r2) HL.out.2.2.2.wf).mono ?_; rintro e w11 ⟨he, hb7⟩; rw [← HQ.out] at he; subst he; have hd := D10.out.next hb7; have htc := hd.dn.res.cell; have htl := hd.dn.res.lt; have htf := hd.dn.res.free; have hmk3 := hd.mbx.cell; have hml3 := hd.mbx.lt; have D11 := Lib.hid hd; clear hb7 hd))
              refine bodyPost_ret (v := .tuple #[manV 0 0 0 0 0 (.slice none 0 0) (.slice none 0 0), .int .i64 72]) ?_ rfl ?_
              · simp [results, Tryz.results9, go_sem, htc]
              refine ⟨.inr ⟨HNo.out, rfl⟩, ?_⟩
              repeat (first | with_reducible exact D11.out.dn.below | refine Below.setCell ?_ (by simp) _)
            have HQ := Lib.hid (manE_good hr)
            have HR := Lib.hid hr
            clear hr
            go_wp2_with (first
              | (go_at_call 31; refine (octEnd p l st _ HD.out.dn.rd).mono ?_; rintro e w10 ⟨x, y, rfl, hx, hb6⟩; obtain rfl : x = 0 := (hx.mp HE.out); have hd := HD.out.next hb6; have hsc := hd.dn.res.cell; have hsl' := hd.dn.res.lt; have hsf := hd.dn.res.free; have hmk2 := hd.mbx.cell; have hml2 := hd.mbx.lt; have D10 := Lib.hid hd; clear hx hb6 hd)
              | (go_at_call 7; rw [show k = ss.length from HL.out.1.symm, show k2 = ps.length from HP.out.1.symm]; refine (check_any v1 v2 v3 v4 v5 _ _ cc c2 ss ps _ (ownsRow_rd D10.out.r1) (ownsRow_rd D10.out.r2) HL.out.2.2.2.wf).mono ?_; rintro e w11 ⟨he, hb7⟩; rw [← HQ.out] at he; subst he; have hd := D10.out.next hb7; have htc := hd.dn.res.cell; have htl := hd.dn.res.lt; have htf := hd.dn.res.free; have hmk3 := hd.mbx.cell; have hml3 := hd.mbx.lt; have D11 := Lib.hid hd; clear hb7 hd))
            refine bodyPost_ret (v := .tuple #[manV v1 v2 v3 v4 v5 (.slice b k cc) (.slice b2 k2 c2), .int .i64 0]) ?_ rfl ?_
            · simp [results, Tryz.results9, go_sem, htc]
            refine ⟨dman_yes D11.out HL.out.1 HP.out.1 HF.out.1 HF.out.2 hle HE.out HR.out Hbl.out (chg7 _ _ _ _ _ _ _ _ _), ?_⟩
            repeat (first | with_reducible exact D11.out.dn.below | refine Below.setCell ?_ (by simp) _)
end Go.Proofs.YtdeaefbjddodjaaGreatDoor
namespace Go.Proofs.YtdeaefbjddodjaaGreatDoor
open Go.RowKit Go.Maps

theorem CanM.uv {l : List UInt8} {s s' : RSt} {xs : List Int} {v : Nat} {y : Int} (h : CanM l s xs) (hu : uvS l s = (v, s')) (hy : v < 4611686018427387904 → y = (v : Int))
    (hlen : ∀ id ns nx mk cl segs prods ys, manR id ns nx mk cl segs prods = true → numsM id ns nx mk cl segs prods = xs ++ ys → ys ≠ []) : CanM l s' (xs ++ [y]) := by
  intro id ns nx mk cl segs prods hr hl
  obtain ⟨hf, ys, h1, h2⟩ := h id ns nx mk cl segs prods hr hl
  match ys, hlen id ns nx mk cl segs prods ys hr h1 with
  | z :: zs, _ =>
    have hz := numsM_bd hr z (by rw [h1]; simp)
    rw [List.flatMap_cons, uvarI] at h2
    obtain ⟨c1, c2, c3⟩ := uvS_canon hf h2 (by omega)
    have e1 : (uvS l s).1 = v := by rw [hu]
    have e2 : (uvS l s).2 = s' := by rw [hu]
    rw [e1] at c1
    rw [e2] at c2 c3
    refine ⟨c2, zs, ?_, c3⟩
    rw [h1, hy (by omega), show (v : Int) = z by omega]
    simp
theorem w64 (v : Nat) : v < 4611686018427387904 → wrap64 (v : Int) = v := fun h => by unfold wrap64; omega
/-- The lists' lengths of a right manifest that begins so. -/
theorem num_len {v1 v2 v3 v4 v5 : Int} {n1 : Nat} {ss : List Int} (hl : ss.length = n1 ∨ 64 < n1) {id ns nx mk cl : Int} {segs : List Int} {prods : List P3} {ys : List Int} (hr : manR id ns nx mk cl segs prods = true)
    (he : numsM id ns nx mk cl segs prods = ([v1, v2, v3, v4, v5, (n1 : Int)] ++ ss) ++ ys) : ss.length = n1 ∧ ys = (prods.length : Int) :: prods.flatMap flat3 := by
  have h := numsM_6 (a := v1) (b := v2) (c := v3) (d := v4) (e := v5) (ys := (n1 : Int) :: (ss ++ ys)) (by rw [he]; simp)
  simp only [List.cons.injEq] at h
  obtain ⟨h1, h2⟩ := h
  have h64 := (manR_facts hr).2.2.1
  have e : ss.length = n1 := by omega
  obtain ⟨_, h3⟩ := List.append_inj h2 (by omega)
  exact ⟨e, h3⟩
theorem can_np2 {v1 v2 v3 v4 v5 : Int} {n1 : Nat} {ss : List Int} (hl : ss.length = n1 ∨ 64 < n1) : ∀ id ns nx mk cl segs prods ys, manR id ns nx mk cl segs prods = true → numsM id ns nx mk cl segs prods = ([v1, v2, v3, v4, v5, (n1 : Int)] ++ ss) ++ ys → ys ≠ [] := by
  intro id ns nx mk cl segs prods ys hr he hy
  have := (num_len hl hr he).2
  rw [hy] at this; cases this
theorem can_pr2 {v1 v2 v3 v4 v5 : Int} {n1 n2 : Nat} {ss zs : List Int} (hl : ss.length = n1 ∨ 64 < n1) (hz : zs.length < 3 * n2) : ∀ id ns nx mk cl segs prods ys, manR id ns nx mk cl segs prods = true → numsM id ns nx mk cl segs prods = ((([v1, v2, v3, v4, v5, (n1 : Int)] ++ ss) ++ [(n2 : Int)]) ++ zs) ++ ys → ys ≠ [] := by
  intro id ns nx mk cl segs prods ys hr he
  exact can_pr (num_len (v1 := v1) (v2 := v2) (v3 := v3) (v4 := v4) (v5 := v5) hl hr (ys := (n2 : Int) :: (zs ++ ys)) (by rw [he]; simp)).1 hz id ns nx mk cl segs prods ys hr he
theorem prods_can2 {v1 v2 v3 v4 v5 : Int} {n1 n2 k : Nat} {ss : List Int} {l : List UInt8} {st t1 t2 t3 : RSt} {x1 x2 x3 : Nat} {y1 y2 y3 : Int} {ps : List P3} (hk : k < n2) (hl : ss.length = n1 ∨ 64 < n1) (hp : ps.length = k) (h1 : uvS l st = (x1, t1)) (h2 : uvS l t1 = (x2, t2)) (h3 : uvS l t2 = (x3, t3))
    (e1 : x1 < 4611686018427387904 → y1 = (x1 : Int)) (e2 : x2 < 4611686018427387904 → y2 = (x2 : Int)) (e3 : x3 < 4611686018427387904 → y3 = (x3 : Int))
    (h : CanM l st ((([v1, v2, v3, v4, v5, (n1 : Int)] ++ ss) ++ [(n2 : Int)]) ++ ps.flatMap flat3)) : CanM l t3 ((([v1, v2, v3, v4, v5, (n1 : Int)] ++ ss) ++ [(n2 : Int)]) ++ (ps ++ [(y1, y2, y3)]).flatMap flat3) := by
  have hz := flat3_len ps
  have q1 := h.uv h1 e1 (can_pr2 hl (by omega))
  have q2 := q1.uv h2 e2 (by rw [List.append_assoc]; exact can_pr2 hl (by simp only [List.length_append, List.length_cons, List.length_nil, hz]; omega))
  have q3 := q2.uv h3 e3 (by rw [List.append_assoc, List.append_assoc]; exact can_pr2 hl (by simp only [List.length_append, List.length_cons, List.length_nil, hz]; omega))
  simpa [flat3] using q3
/-- Only what was read may be a right manifest of these bytes. -/
theorem ref_only {bs l : List UInt8} {s : RSt} {v1 v2 v3 v4 v5 : Int} {n1 n2 : Nat} {ss : List Int} {ps : List P3} (hc : CanM l s ((([v1, v2, v3, v4, v5, (n1 : Int)] ++ ss) ++ [(n2 : Int)]) ++ ps.flatMap flat3)) (hl : ss.length = n1 ∨ 64 < n1) (hp : ps.length = n2 ∨ 64 < n2) (hb : bs.drop 9 = l) :
    ∀ id' ns' nx' mk' cl' segs' prods', manR id' ns' nx' mk' cl' segs' prods' = true → encM id' ns' nx' mk' cl' segs' prods' = bs → id' = v1 ∧ ns' = v2 ∧ nx' = v3 ∧ mk' = v4 ∧ cl' = v5 ∧ segs' = ss ∧ prods' = ps := by
  intro id' ns' nx' mk' cl' segs' prods' hr he
  have hlb : l = bodyM id' ns' nx' mk' cl' segs' prods' := by
    rw [← hb, ← he, encM, if_pos hr]; rfl
  obtain ⟨_, ys, h1, _⟩ := hc _ _ _ _ _ _ _ hr hlb
  obtain ⟨e1, e2⟩ := num_len (v1 := v1) (v2 := v2) (v3 := v3) (v4 := v4) (v5 := v5) hl hr (ys := (n2 : Int) :: (ps.flatMap flat3 ++ ys)) (by rw [h1]; simp)
  have h64 := (manR_facts hr).2.2.2.1
  simp only [List.cons.injEq] at e2
  rw [numsM_fin e1 (show ps.length = n2 by omega)] at h1
  obtain ⟨a1, a2, a3, a4, a5, a6, a7, _⟩ := numsM_inj h1
  exact ⟨a1, a2, a3, a4, a5, a6, a7⟩

section
variable {w W W' : World} {p : Nat} {l : List UInt8} {s s' : RSt}
end
section
variable {w W W' w8 : World} {p mb k1 c1 k2 c2 : Nat} {l : List UInt8} {s s' : RSt} {v1 v2 v3 v4 v5 : Int} {b1 b2 : Option Addr} {ss : List Int} {ps : List P3}
end
section
variable {w W W' : World} {p mb k1 c1 k2 c2 pb : Nat} {l : List UInt8} {s s' : RSt} {v1 v2 v3 v4 v5 : Int} {b1 b2 : Option Addr} {ss : List Int} {ps : List P3}
end
end Go.Proofs.YtdeaefbjddodjaaGreatDoor
namespace Go.Proofs.YtdeaefbjddodjaaGreatDoor
open Go.RowKit Go.Maps

end Go.Proofs.YtdeaefbjddodjaaGreatDoor
namespace Go.Proofs.YtdeaefbjddodjaaGreatDoor
open Go.RowKit Go.Maps

def flip1 (b : UInt8) : UInt8 := b ^^^ 255
theorem flip1_flip1 (b : UInt8) : flip1 (flip1 b) = b := by unfold flip1; rw [UInt8.xor_assoc]; simp
def flipN (k : Nat) (l : List UInt8) : List UInt8 := (l.take k).map flip1 ++ l.drop k
theorem flip_bits_all : ∀ n : Nat, n < 256 → bits BinOp.xor IntKind.u8 (n : Int) 255 = ((flip1 (UInt8.ofNat n)).toNat : Int) := by decide +kernel
theorem flip_bits (b : UInt8) : bits BinOp.xor IntKind.u8 (b.toNat : Int) 255 = ((flip1 b).toNat : Int) := by
  have := flip_bits_all b.toNat (UInt8.toNat_lt b)
  simpa using this
theorem flipN_len (k : Nat) (l : List UInt8) : (flipN k l).length = l.length := by simp [flipN]; omega
theorem flipN_get {k : Nat} {l : List UInt8} (hk : k < l.length) : (flipN k l)[k]? = some l[k] := by
  unfold flipN
  rw [List.getElem?_append_right (by simp; omega)]
  simp [Nat.min_eq_left (Nat.le_of_lt hk), hk]
theorem flipN_set {k : Nat} {l : List UInt8} (hk : k < l.length) : (flipN k l).set k (flip1 l[k]) = flipN (k + 1) l := by
  have h1 : ((l.take k).map flip1).length = k := by simp; omega
  unfold flipN
  rw [List.set_append_right _ _ (by omega), h1, Nat.sub_self, List.drop_eq_getElem_cons hk, List.set_cons_zero, List.take_add_one, List.getElem?_eq_getElem hk, List.map_append, List.append_assoc]
  rfl
theorem flipN_all (l : List UInt8) : flipN l.length l = l.map flip1 := by simp [flipN]
theorem flip_flip (l : List UInt8) : (l.map flip1).map flip1 = l := by
  rw [List.map_map]
  have : (flip1 ∘ flip1) = id := funext flip1_flip1
  rw [this, List.map_id]
theorem bv_set (l : List UInt8) (k : Nat) (x : UInt8) : (bv l).set k (.int .u8 x.toNat) = bv (l.set k x) := by simp [bv, List.map_set]
theorem Own.bvg {w : World} {B g : Nat} {t : TypeId} {l : List UInt8} {ts : List Value} (h : Own w B g t (bv l ++ ts)) {i : Nat} {x : UInt8} (hi : l[i]? = some x) : w.cell? ⟨g, i, none⟩ = some (.int .u8 x.toNat) := by
  refine h.get ?_
  have hl := (List.getElem?_eq_some_iff.1 hi).1
  rw [List.getElem?_append_left (by simpa [bv] using hl)]
  simp [bv, hi]
theorem Own.bvs {w : World} {B g : Nat} {t : TypeId} {l : List UInt8} {ts : List Value} (h : Own w B g t (bv l ++ ts)) {i : Nat} (hi : i < l.length) (x : UInt8) : Own (w.setCell ⟨g, i, none⟩ (.int .u8 x.toNat)) B g t (bv (l.set i x) ++ ts) := by
  have := h.set_ (i := i) (by simp [bv]; omega) (.int .u8 x.toNat)
  rwa [List.set_append_left _ _ (by simpa [bv] using hi), bv_set] at this

theorem Chg.grown {S : Nat → Prop} {a w w' : World} {row : Option Nat} (h : Chg S a w) (hg : w.grownBy w' row) (hr : ∀ k, row = some k → S k ∨ a.heap.size ≤ k) : Chg S a w' :=
  ⟨hg.os.trans h.os, hg.tape.trans h.tape, hg.output.trans h.output, Nat.le_trans h.size hg.size, fun k hk hn => (hg.block k (Nat.lt_of_lt_of_le hk h.size) fun e => by
    rcases hr k e.symm with h1 | h1
    · exact hn h1
    · omega).trans (h.block k hk hn)⟩
theorem ownsRow_put {w : World} {B g cap n size i : Nat} {e : TypeId} {xs : List Value} (h : w.ownsRow B e size (.slice (some ⟨g, 0, none⟩) n cap) n xs) (u : Value) : (w.setCell ⟨g, i, none⟩ u).ownsRow B e size (.slice (some ⟨g, 0, none⟩) n cap) n (xs.set i u) := by
  obtain ⟨h1, h2⟩ := h
  refine ⟨by simpa using h1, ?_⟩
  rcases h2 with ⟨hv, _⟩ | ⟨g', cap', cur, hv, hg, hh, hnc, hcm, hsz, htk⟩
  · cases hv
  · cases hv
    refine .inr ⟨g, cap, cur.setIfInBounds i u, rfl, hg, Box.set_ (show Box w g e cur from hh) i u, hnc, hcm, by simpa using hsz, ?_⟩
    rw [Array.toList_setIfInBounds, List.take_set, htk]

/-- What ManifestCodes knows between its calls: its two variables, the copy's rows, that nothing old has changed. -/
structure CS (w : World) (M N : Array Value) (bn g h : Nat) (ss : List Int) (ps : List P3) (W : World) : Prop where
  m : Box W w.heap.size 25 M
  n : Box W bn 25 N
  og : Own W (w.heap.size + 1) g 3 (ss.map (.int .i64) ++ [.int .i64 (-77)])
  oh : Own W (w.heap.size + 1) h 55 (ps.flatMap tri ++ [.int .i64 (-77), .int .i64 0, .int .i64 0])
  below : Below w.heap.size w W
  far : g ≠ h ∧ bn ≠ g ∧ bn ≠ h
section
variable {w : World} {M N : Array Value} {bn g h : Nat} {ss ss' : List Int} {ps ps' : List P3} {W W' : World}
theorem CS.next (s : CS w M N bn g h ss ps W) (hb : Below W.heap.size W W') : CS w M N bn g h ss ps W' :=
  ⟨s.m.below hb s.m.lt, s.n.below hb s.n.lt, s.og.below hb s.og.lt, s.oh.below hb s.oh.lt, s.below.trans (hb.mono s.below.size), s.far⟩
theorem CS.man (s : CS w M N bn g h ss ps W) (hc : Chg (fun x => x = g ∨ x = h) W W') (og : Own W' (w.heap.size + 1) g 3 (ss'.map (.int .i64) ++ [.int .i64 (-77)]))
    (oh : Own W' (w.heap.size + 1) h 55 (ps'.flatMap tri ++ [.int .i64 (-77), .int .i64 0, .int .i64 0])) : CS w M N bn g h ss' ps' W' := by
  obtain ⟨f1, f2, f3⟩ := s.far
  have g1 := og.1
  have g2 := oh.1
  exact ⟨s.m.chg hc (by omega), s.n.chg hc (by omega), og, oh, s.below.trans (hc.below s.below.size (by intro x hx; omega)), s.far⟩
end
theorem octEncode_len (id ns nx mk cl : Int) (A A2 : Option Addr) (c d n m : Nat) (segs : List Int) (prods : List P3) (w : World) (hn : segs.length = n) (hm : prods.length = m) (hA : Rd w w.heap.size A (segs.map (.int .i64))) (hB : Rd w w.heap.size A2 (prods.flatMap tri)) (hws : ∀ s ∈ segs, (Lit.int .i64 s).wf = true) :
    Calls Tryz.prog 4 #[manV id ns nx mk cl (.slice A n c) (.slice A2 m d)] w fun e w' => (∃ v, e = .returned v) ∧ Below w.heap.size w w' := by
  subst hn hm
  exact (octEncode id ns nx mk cl A A2 c d segs prods w hA hB hws).mono fun e w' ⟨b, cap, h, _, hb⟩ => ⟨⟨_, h⟩, hb⟩
/-- What either Decode answers, said once. -/
theorem dman_one (bs : List UInt8) : ∃ (i0 n0 x0 m0 k0 : Int) (S0 : List Int) (P0 : List P3) (er : Int), S0.length ≤ 64 ∧ P0.length ≤ 64 ∧ ∀ (w w' : World) (e : Ending), DMan bs w w' e → ∃ (b1 : Option Addr) (c1 : Nat) (b2 : Option Addr) (c2 : Nat),
    e = .returned (.tuple #[manV i0 n0 x0 m0 k0 (.slice b1 S0.length c1) (.slice b2 P0.length c2), .int .i64 er]) ∧ w'.ownsRow w.heap.size 3 1 (.slice b1 S0.length c1) S0.length (S0.map (.int .i64)) ∧ w'.ownsRow w.heap.size 55 3 (.slice b2 P0.length c2) P0.length (P0.flatMap tri) ∧
    (∀ k, (Value.slice b1 S0.length c1).ownBlock = some k → (Value.slice b2 P0.length c2).ownBlock ≠ some k) := by
  by_cases hx : ∃ id ns nx mk cl segs prods, manR id ns nx mk cl segs prods = true ∧ encM id ns nx mk cl segs prods = bs
  · obtain ⟨i0, n0, x0, m0, k0, S0, P0, hr, he⟩ := hx
    refine ⟨i0, n0, x0, m0, k0, S0, P0, 0, (manR_facts hr).2.2.1, (manR_facts hr).2.2.2.1, ?_⟩
    rintro w w' e (⟨id, ns, nx, mk, cl, segs, prods, b1, c1, b2, c2, h1, h2, h3, h4, h5, h6, h7⟩ | ⟨h1, h2⟩)
    · obtain ⟨rfl, rfl, rfl, rfl, rfl, rfl, rfl⟩ := h3 _ _ _ _ _ _ _ hr he
      exact ⟨b1, c1, b2, c2, h4, h5, h6, h7⟩
    · exact absurd he (h1 _ _ _ _ _ _ _ hr)
  · refine ⟨0, 0, 0, 0, 0, [], [], 72, by simp, by simp, ?_⟩
    rintro w w' e (⟨id, ns, nx, mk, cl, segs, prods, b1, c1, b2, c2, h1, h2, _⟩ | ⟨h1, h2⟩)
    · exact absurd ⟨_, _, _, _, _, _, _, h1, h2⟩ hx
    · exact ⟨none, 0, none, 0, h2, nil_own _ _ _ _, nil_own _ _ _ _, fun k hk => by cases hk⟩
theorem dman_ret {bs : List UInt8} {w w' : World} {e : Ending} (h : DMan bs w w' e) : ∃ v, e = .returned v := by
  obtain ⟨_, _, _, _, _, _, _, _, _, _, h1⟩ := dman_one bs
  obtain ⟨_, _, _, _, h2, _⟩ := h1 w w' e h
  exact ⟨_, h2⟩
theorem encM_small (id ns nx mk cl : Int) (segs : List Int) (prods : List P3) : (encM id ns nx mk cl segs prods).length ≤ 2639 := by
  unfold encM
  split
  · rename_i hr; rw [wrapB_len]; have := bodyM_len hr; omega
  · simp

end Go.Proofs.YtdeaefbjddodjaaGreatDoor
/- Catalogues: the bytes of any catalogue, the catalogue of any bytes; and the law ManifestCatalogues walked whole. -/
namespace Go.Proofs.YtdeaefbjddodjaaGreatDoor
open Go.RowKit Go.Maps

/- Catalogues' bytes: EncodeCatalogue of both sides. -/

def topB (t : T4) : List UInt8 := uvarI t.id ++ textB t.name ++ uvarI t.limit ++ uvarI t.hor
def bodyC (nid : Int) (l : List T4) : List UInt8 := uvarI nid ++ uvarI l.length ++ l.flatMap topB
/-- The bytes of a catalogue; none, if it may not be. -/
noncomputable def encC (nid : Int) (l : List T4) : List UInt8 := if catR nid l = true then wrapB 183 (bodyC nid l) else []
theorem nameE_size {s : ByteArray} (h : nameE s = 0) : s.size ≤ 24 := by
  unfold nameE at h
  split at h
  · rename_i hb
    simp only [nameB, Bool.and_eq_true, decide_eq_true_eq] at hb
    exact hb.1.2
  · cases h
theorem catGo_facts {nid : Int} : ∀ {l : List T4} {seen : List Int} {prev : Option ByteArray}, catGo nid seen prev l = true → ∀ t ∈ l, (1 ≤ t.id ∧ t.id < nid) ∧ t.name.size ≤ 24 ∧ (256 ≤ t.limit ∧ t.limit ≤ 65536) ∧ 0 ≤ t.hor ∧ t.hor ≤ 1099511627776
  | [], _, _, _, t, ht => by cases ht
  | q :: l, _, _, h, t, ht => by
    simp only [catGo, Bool.and_eq_true, decide_eq_true_eq] at h
    obtain ⟨⟨_, h1, h2, _, h3, h4⟩, h5⟩ := h
    rcases List.mem_cons.1 ht with rfl | ht
    · exact ⟨h2, nameE_size h1, h3, h4⟩
    · exact catGo_facts h5 t ht
theorem catR_facts {nid : Int} {l : List T4} (h : catR nid l = true) : 1 ≤ nid ∧ nid ≤ 1073741824 ∧ l.length ≤ 16 ∧ ∀ t ∈ l, (1 ≤ t.id ∧ t.id < nid) ∧ t.name.size ≤ 24 ∧ (256 ≤ t.limit ∧ t.limit ≤ 65536) ∧ 0 ≤ t.hor ∧ t.hor ≤ 1099511627776 := by
  simp only [catR, Bool.and_eq_true, decide_eq_true_eq] at h
  obtain ⟨⟨⟨h1, h2⟩, h3⟩, h4⟩ := h
  exact ⟨h1, h2, h3, catGo_facts h4⟩

set_option maxRecDepth 100000 in
set_option maxHeartbeats 8000000 in
theorem octEncodeC (nid : Int) (A : Option Addr) (c : Nat) (l : List T4) (w : World) (hA : Rd w w.heap.size A (l.flatMap quad)) (hws : ∀ t ∈ l, (Lit.int .i64 t.id).wf = true ∧ t.name.size ≤ maxLen) :
    Calls Tryz.prog 5 #[.agg #[.int .i64 nid, .slice A l.length c]] w fun e w' =>
      ∃ b cap, e = .returned (.tuple #[.slice b (encC nid l).length cap, .int .i64 (catE nid l)]) ∧
        w'.ownsRow w.heap.size 5 1 (.slice b (encC nid l).length cap) (encC nid l).length (bv (encC nid l)) ∧ Below w.heap.size w w' := by
  have hb0 : Below w.heap.size w (w.alloc (.cells #[.int .i64 nid, .slice A l.length c] 28)) := (Below.refl _ _).alloc (Nat.le_refl _) _
  have hX0 := Box.new w 28 #[.int .i64 nid, .slice A l.length c]
  have Hb0 := Lib.hid hb0
  have HX0 := Lib.hid hX0
  have HA := Lib.hid hA
  clear hb0 hX0 hA
  cases hr : catR nid l with
  | false =>
    have HE := Lib.hid (show catE nid l = 71 by rw [catE, hr]; rfl)
    have HL := Lib.hid (show encC nid l = [] by rw [encC, hr]; rfl)
    clear hr
    go_enter Tryz.func5, Tryz.ntmps5
    go_wp2_with (go_at_call 8; refine (checkCat_any nid A c l _ ((HA.out.below Hb0.out).mono (by simp)) hws).mono ?_; rintro e w1 ⟨he, hb1⟩; rw [HE.out] at he; subst he; have Hb1 := Lib.hid hb1; clear hb1)
    go_ret2
    rw [HL.out, HE.out]
    exact ⟨none, 0, rfl, nil_own _ _ _ _, Hb0.out.trans (Hb1.out.mono (by simp))⟩
  | true =>
    have HE := Lib.hid (show catE nid l = 0 by rw [catE, hr]; rfl)
    have HL := Lib.hid (show encC nid l = wrapB 183 (bodyC nid l) by rw [encC, hr]; rfl)
    obtain ⟨a1, a2, a3, fpr⟩ := catR_facts hr
    have Fpr := Lib.hid fpr
    clear hr fpr
    go_enter Tryz.func5, Tryz.ntmps5
    go_wp2_with (first
      | (go_at_call 8; refine (checkCat_any nid A c l _ ((HA.out.below Hb0.out).mono (by simp)) hws).mono ?_; rintro e w1 ⟨he, hb1⟩; rw [HE.out] at he; subst he; have HX := Lib.hid (HX0.out.below hb1 (by simp)); have Hb1 := Lib.hid (Hb0.out.trans (hb1.mono (by simp))); have hsz1 : w.heap.size < w1.heap.size := by (have := hb1.size; simp at this; omega)
         have hcx1 := HX.out.cell
         clear hb1)
      | (go_at_call 16; refine (wNew _).mono ?_; rintro e w2 ⟨rfl, hw2, hb2⟩; have S := Lib.hid (WS.new (B := w.heap.size + 1) (by omega) hw2 hb2); have hcx2 := (HX.out.below hb2 HX.out.lt).cell; have L : Hid (([] : List UInt8).length ≤ 0) := by (show _ ≤ 0; simp)
         clear hw2 hb2)
      | (go_at_call 17; refine (wUv S.out L.out (by omega) _ (by omega) (by omega)).mono ?_; rintro e wq ⟨rfl, gq, s1, s2, s3, s4⟩; have S' := Lib.hid s1; have L' := Lib.hid s2; have hX' := HX.out.below s1.below (by omega); have hcx' := hX'.cell; clear s1 s2 s3 s4 S L; have S := S'; have L := L'; clear S' L' hX'))
    go_loopw [28] (fun i wr => ∃ (k : Nat) (g : Option Nat) (b : List UInt8), k ≤ l.length ∧ i = .int .i64 k ∧ WS (w.heap.size + 1) w1 wr 91 w1.heap.size g b ∧ b.length ≤ 60 + 70 * k ∧
        b = uvarI nid ++ uvarI l.length ++ (l.take k).flatMap topB)
      (fun i _ => l.length - (intOf i).toNat)
    case atStart => exact ⟨0, _, _, Nat.zero_le _, rfl, S.out, by have := L.out; omega, by simp⟩
    case round =>
      clear S L
      obtain ⟨m, g, b, hm, rfl, hS, hL, hl⟩ := hrel
      have S := Lib.hid hS
      have L := Lib.hid hL
      have Hl := Lib.hid hl
      have hcx4 := (HX.out.below hS.below (by omega)).cell
      clear hS hL hl
      by_cases hlt : m < l.length
      · obtain ⟨ad, rfl, _, hp1, hp2, hp3, hp4⟩ := (HA.out.below (Hb1.out.trans (S.out.below.mono (by omega)))).quad_ hlt
        have hpr := Fpr.out _ (List.getElem_mem hlt)
        have Hs := Lib.hid (flat_take l topB m hlt)
        generalize l[m] = pm at hp1 hp2 hp3 hp4 hpr Hs
        obtain ⟨⟨q1, q2⟩, q3, ⟨q4, q5⟩, q6, q7⟩ := hpr
        have HQ := Lib.hid (Box.new wr 59 #[.int .i64 pm.id, .string pm.name, .int .i64 pm.limit, .int .i64 pm.hor])
        have S' := Lib.hid (S.out.on ((Below.refl _ _).alloc (Nat.le_refl _) (.cells #[.int .i64 pm.id, .string pm.name, .int .i64 pm.limit, .int .i64 pm.hor] 59)))
        have G : Hid (∀ k, g = some k → wr.heap.size ≠ k) := fun k hk => by have := S.out.wr.glt hk; omega
        have hpw : w1.heap.size < wr.heap.size := S.out.wr.lt
        clear S
        have S := S'
        clear S'
        go_wp2_with (first
          | (go_at_call 17; refine (wUv S.out L.out (by omega) _ (by omega) (by omega)).mono ?_; rintro e wq ⟨rfl, gq, s1, s2, s3, s4⟩; have S' := Lib.hid s1; have L' := Lib.hid s2; have hX' := HX.out.below s1.below (by omega); have hcx' := hX'.cell; have HQ' := Lib.hid (HQ.out.chg s3 (by rintro (e | e); exact absurd e (by omega); exact absurd rfl (G.out _ e.symm))); have hcq' := HQ'.out.cell; have G' : Hid (∀ j, gq = some j → wr.heap.size ≠ j) := (by rcases s4 with s4 | ⟨k', s4, s5⟩; exact fun j hj => G.out j (s4.symm.trans hj); exact fun j hj => (by rw [s4] at hj; cases hj; have := HQ.out.lt; omega)); clear s1 s2 s3 s4 S L HQ G; have HQ := HQ'; have G := G'; clear HQ' G'; have S := S'; have L := L'; clear S' L' hX')
          | (go_at_call 20; refine (wTx S.out L.out (by omega) pm.name 24 q3 (by omega)).mono ?_; rintro e wq ⟨rfl, gq, s1, s2, s3, s4⟩; have S' := Lib.hid s1; have L' := Lib.hid s2; have hX' := HX.out.below s1.below (by omega); have hcx' := hX'.cell; have HQ' := Lib.hid (HQ.out.chg s3 (by rintro (e | e); exact absurd e (by omega); exact absurd rfl (G.out _ e.symm))); have hcq' := HQ'.out.cell; have G' : Hid (∀ j, gq = some j → wr.heap.size ≠ j) := (by rcases s4 with s4 | ⟨k', s4, s5⟩; exact fun j hj => G.out j (s4.symm.trans hj); exact fun j hj => (by rw [s4] at hj; cases hj; have := HQ.out.lt; omega)); clear s1 s2 s3 s4 S L HQ G; have HQ := HQ'; have G := G'; clear HQ' G'; have S := S'; have L := L'; clear S' L' hX'))
        go_roundw
        case rel => exact ⟨m + 1, _, _, by omega, by go_num, S.out, by have := L.out; omega, by rw [Hs.out, ← List.append_assoc, ← Hl.out]; simp [topB]⟩
        case measure => simp [intOf]; omega
      · have hke : Hid (l.take m = l) := List.take_of_length_le (by omega)
        rw [hke.out] at Hl
        have Hbl := Lib.hid (show b.length = (bodyC nid l).length by rw [Hl.out]; rfl)
        have hbl : (bodyC nid l).length ≤ 1000000 := by have := L.out; rw [← Hbl.out]; omega
        go_wp2_with (first
          | (go_at_call 19; refine (wBytesL _ _ _ (bodyC nid l) (bodyC nid l).length _ S.out.wr Hl.out rfl (by omega)).mono ?_; rintro e w5 ⟨b5, cap5, rfl, hown, hb5⟩; have S5 := Lib.hid (S.out.on hb5); have O5 := Lib.hid hown; clear hown hb5)
          | (go_at_call 18; refine (octWrap 183 _ (bodyC nid l).length _ (bodyC nid l) _ (ownsRow_rd O5.out) rfl (by omega)).mono ?_; rintro e w6 ⟨b6, cap6, rfl, hown, hb6⟩; have S6 := Lib.hid (S5.out.on hb6); have O6 := Lib.hid hown; clear hown hb6))
        go_ret2
        rw [HL.out, HE.out, wrapB_len]
        exact ⟨b6, cap6, rfl, ownsRow_le O6.out (Nat.le_trans Hb1.out.size S5.out.below.size), Hb1.out.trans (S6.out.below.mono (by omega))⟩

/- A catalogue's bytes as numbers and texts one behind the other. No program in sight. -/

inductive Tok where
  | num (v : Int)
  | txt (s : ByteArray)
def Tok.bytes : Tok → List UInt8
  | .num v => uvarI v
  | .txt s => textB s
def topT (t : T4) : List Tok := [.num t.id, .txt t.name, .num t.limit, .num t.hor]
def toksC (nid : Int) (l : List T4) : List Tok := [.num nid, .num (l.length : Int)] ++ l.flatMap topT
theorem topT_bytes (l : List T4) : (l.flatMap topT).flatMap Tok.bytes = l.flatMap topB := by
  induction l with
  | nil => rfl
  | cons p r ih => simp only [List.flatMap_cons, List.flatMap_append, ih]; simp [topT, topB, Tok.bytes]
theorem bodyC_toks (nid : Int) (l : List T4) : bodyC nid l = (toksC nid l).flatMap Tok.bytes := by
  simp only [toksC, bodyC, List.flatMap_append, topT_bytes]
  simp [Tok.bytes]
theorem topT_len (l : List T4) : (l.flatMap topT).length = 4 * l.length := by
  induction l with
  | nil => rfl
  | cons p r ih => simp only [List.flatMap_cons, List.length_append, ih, List.length_cons]; simp [topT]; omega
theorem topT_inj : ∀ {a b : List T4}, a.length = b.length → a.flatMap topT = b.flatMap topT → a = b
  | [], [], _, _ => rfl
  | [], _ :: _, h, _ => by cases h
  | _ :: _, [], h, _ => by cases h
  | ⟨a1, a2, a3, a4⟩ :: a, ⟨b1, b2, b3, b4⟩ :: b, h, e => by
    simp only [List.flatMap_cons, topT, List.cons_append, List.nil_append, List.cons.injEq, Tok.num.injEq, Tok.txt.injEq] at e
    obtain ⟨rfl, rfl, rfl, rfl, e⟩ := e
    rw [topT_inj (by simpa using h) e]
theorem toksC_2 {nid a b : Int} {l : List T4} {ys : List Tok} (h : toksC nid l = [.num a, .num b] ++ ys) : nid = a ∧ (l.length : Int) = b ∧ l.flatMap topT = ys := by
  simp only [toksC, List.cons_append, List.nil_append, List.cons.injEq, Tok.num.injEq] at h
  exact h
theorem toksC_inj {nid nid' : Int} {l l' : List T4} {ys : List Tok} (h : toksC nid l = toksC nid' l' ++ ys) : nid = nid' ∧ l = l' ∧ ys = [] := by
  have e0 : toksC nid' l' = [.num nid', .num (l'.length : Int)] ++ l'.flatMap topT := rfl
  rw [e0, List.append_assoc] at h
  obtain ⟨h1, h2, h3⟩ := toksC_2 h
  have hl : l.length = l'.length := by omega
  have h4 : l.flatMap topT ++ [] = l'.flatMap topT ++ ys := by simpa using h3
  obtain ⟨e3, e4⟩ := List.append_inj h4 (by rw [topT_len, topT_len, hl])
  exact ⟨h1, topT_inj hl e3, e4.symm⟩
/-- The next topic of a list that begins with ps. -/
theorem tok_next {l ps : List T4} {ys : List Tok} (hk : ps.length < l.length) (h : l.flatMap topT = ps.flatMap topT ++ ys) : ∃ t ∈ l, ∃ zs, ys = topT t ++ zs := by
  have e1 : l = l.take ps.length ++ l[ps.length] :: l.drop (ps.length + 1) := by rw [← List.drop_eq_getElem_cons hk, List.take_append_drop]
  have e2 : l.flatMap topT = (l.take ps.length).flatMap topT ++ (topT l[ps.length] ++ (l.drop (ps.length + 1)).flatMap topT) := by
    conv => lhs; rw [e1]
    rw [List.flatMap_append, List.flatMap_cons]
  rw [e2] at h
  obtain ⟨_, h2⟩ := List.append_inj h (by rw [topT_len, topT_len, List.length_take]; omega)
  exact ⟨_, List.getElem_mem hk, _, h2.symm⟩

/-- What was read so far are the bytes of xs. -/
def ConC (l : List UInt8) (s : RSt) (xs : List Tok) : Prop := s.fl = false → l.take s.at_ = xs.flatMap Tok.bytes
/-- If the bytes are a right catalogue's, xs are its first parts. -/
def CanC (l : List UInt8) (s : RSt) (xs : List Tok) : Prop := ∀ nid tl, catR nid tl = true → l = bodyC nid tl → s.fl = false ∧ ∃ ys, toksC nid tl = xs ++ ys ∧ l.drop s.at_ = ys.flatMap Tok.bytes
theorem ConC.start (l : List UInt8) : ConC l ⟨0, false⟩ [] := fun _ => rfl
theorem CanC.start (l : List UInt8) : CanC l ⟨0, false⟩ [] := fun nid tl _ hl => ⟨rfl, _, rfl, by rw [hl, bodyC_toks]; rfl⟩
theorem ConC.next {l : List UInt8} {s s' : RSt} {xs : List Tok} {v : Nat} (h : ConC l s xs) (hu : nxS l s = (v, s')) : ConC l s' (xs ++ [.num (v : Int)]) := fun hf => by
  obtain ⟨h1, h2⟩ := nxS_ok hu hf
  rw [h2, h h1, List.flatMap_append]
  simp [uvarI, Tok.bytes]
theorem ConC.count {l : List UInt8} {s s' : RSt} {xs : List Tok} {v most : Nat} (h : ConC l s xs) (hu : cnS most l s = (v, s')) : ConC l s' (xs ++ [.num (v : Int)]) := by
  unfold cnS at hu
  split at hu
  · exact h.next hu
  · cases hu
    intro hf
    have := badS_fl l (nxS l s).2
    rw [hf] at this; cases this
theorem txS_ok {m : Nat} {l t : List UInt8} {s s' : RSt} (hu : txS m l s = (t, s')) (hf : s'.fl = false) : s.fl = false ∧ l.take s'.at_ = l.take s.at_ ++ textB ⟨t.toArray⟩ := by
  unfold txS at hu
  split at hu
  · rename_i hx; cases hu; rw [hx] at hf; cases hf
  · rename_i hx
    split at hu
    · cases hu; cases hf
    · rename_i v k hr
      split at hu
      · rename_i hv
        cases hu
        refine ⟨by simpa using hx, ?_⟩
        have h1 := rdE_inv hr
        have hb := rdE_bound hr
        simp only [List.length_drop] at hb
        have hl : ((l.drop (s.at_ + k)).take v).length = v := by simp only [List.length_take, List.length_drop]; omega
        show l.take (s.at_ + k + v) = _
        rw [List.take_add, List.take_add, h1, textB]
        have e : (⟨((l.drop (s.at_ + k)).take v).toArray⟩ : ByteArray).size = v := by
          show ((l.drop (s.at_ + k)).take v).toArray.size = v
          rw [List.size_toArray]; exact hl
        rw [e, List.append_assoc]
      · cases hu; cases hf
theorem ConC.tx {m : Nat} {l t : List UInt8} {s s' : RSt} {xs : List Tok} (h : ConC l s xs) (hu : txS m l s = (t, s')) : ConC l s' (xs ++ [.txt ⟨t.toArray⟩]) := fun hf => by
  obtain ⟨h1, h2⟩ := txS_ok hu hf
  rw [h2, h h1, List.flatMap_append]
  simp [Tok.bytes]
/-- A reading of a number below m. -/
def RdN (m : Nat) (l : List UInt8) (s : RSt) (v : Int) (s' : RSt) : Prop := ∀ n r, s.fl = false → l.drop s.at_ = uvar n ++ r → n < m → v = (n : Int) ∧ s'.fl = false ∧ l.drop s'.at_ = r
theorem RdN.uv {l : List UInt8} {s s' : RSt} {v : Nat} (hu : uvS l s = (v, s')) : RdN 4611686018427387904 l s (wrap64 (v : Int)) s' := fun n r hf hl hn => by
  have := uvS_canon hf hl (by omega)
  rw [hu] at this
  obtain ⟨h1, h2, h3⟩ := this
  simp only at h1 h2 h3
  subst h1
  exact ⟨wrap_small hn, h2, h3⟩
theorem RdN.uv0 {l : List UInt8} {s s' : RSt} {v : Nat} (hu : uvS l s = (v, s')) : RdN 4611686018427387904 l s (v : Int) s' := fun n r hf hl hn => by
  obtain ⟨h1, h2, h3⟩ := RdN.uv hu n r hf hl hn
  have := uvS_canon hf hl (by omega)
  rw [hu] at this
  exact ⟨by have := this.1; simp only at this; omega, h2, h3⟩
theorem RdN.nx {l : List UInt8} {s s' : RSt} {v : Nat} (hu : nxS l s = (v, s')) : RdN 4611686018427387904 l s (v : Int) s' := fun n r hf hl hn => by
  obtain ⟨h1, h2, h3⟩ := uvS_canon hf hl (by omega)
  unfold nxS at hu
  rw [if_pos (by omega)] at hu
  rw [hu] at h1 h2 h3
  exact ⟨by simp only at h1; omega, h2, h3⟩
theorem RdN.cn {l : List UInt8} {s s' : RSt} {v most : Nat} (hu : cnS most l s = (v, s')) (hm : most < 1000000) : RdN (most + 1) l s (v : Int) s' := fun n r hf hl hn => by
  obtain ⟨h1, h2, h3⟩ := RdN.nx (v := (nxS l s).1) (s' := (nxS l s).2) rfl n r hf hl (by omega)
  unfold cnS at hu
  rw [if_pos (by omega)] at hu
  rw [hu] at h1 h2 h3
  exact ⟨h1, h2, h3⟩
theorem CanC.first {l : List UInt8} {s : RSt} {v : Int} (hu : RdN 4611686018427387904 l ⟨0, false⟩ v s) : CanC l s [.num v] := fun nid tl hr hl => by
  obtain ⟨a1, a2, a3, _⟩ := catR_facts hr
  obtain ⟨h1, h2, h3⟩ := hu nid.toNat _ rfl (show l.drop 0 = _ by rw [List.drop_zero, hl, bodyC, uvarI, List.append_assoc]) (by omega)
  have e : v = nid := by omega
  subst e
  exact ⟨h2, .num (tl.length : Int) :: tl.flatMap topT, rfl, by rw [h3, List.flatMap_cons, topT_bytes]; rfl⟩
theorem CanC.second {l : List UInt8} {s s' : RSt} {v n : Int} {m : Nat} (h : CanC l s [.num v]) (hm : 17 ≤ m) (hu : RdN m l s n s') : CanC l s' ([.num v, .num n] ++ ([] : List T4).flatMap topT) := fun nid tl hr hl => by
  obtain ⟨a1, a2, a3, _⟩ := catR_facts hr
  obtain ⟨hf, ys, e1, e2⟩ := h nid tl hr hl
  simp only [toksC, List.cons_append, List.nil_append, List.cons.injEq] at e1
  obtain ⟨e0, rfl⟩ := e1
  rw [List.flatMap_cons, Tok.bytes, uvarI] at e2
  obtain ⟨h1, h2, h3⟩ := hu _ _ hf e2 (by omega)
  have e : n = (tl.length : Int) := by omega
  subst e
  exact ⟨h2, tl.flatMap topT, by rw [toksC, e0]; rfl, h3⟩
theorem CanC.top {l : List UInt8} {s s1 s2 s3 s4 : RSt} {v x1 x3 x4 : Int} {t : List UInt8} {n : Nat} {ps : List T4} (h : CanC l s ([.num v, .num (n : Int)] ++ ps.flatMap topT)) (hk : ps.length < n)
    (h1 : RdN 4611686018427387904 l s x1 s1) (h2 : txS 24 l s1 = (t, s2)) (h3 : RdN 4611686018427387904 l s2 x3 s3) (h4 : RdN 4611686018427387904 l s3 x4 s4) :
    CanC l s4 ([.num v, .num (n : Int)] ++ (ps ++ [(⟨x1, ⟨t.toArray⟩, x3, x4⟩ : T4)]).flatMap topT) := fun nid tl hr hl => by
  obtain ⟨_, _, _, hfa⟩ := catR_facts hr
  obtain ⟨hf, ys, e1, e2⟩ := h nid tl hr hl
  rw [List.append_assoc] at e1
  obtain ⟨g1, g2, g3⟩ := toksC_2 e1
  obtain ⟨tt, ht, zs, rfl⟩ := tok_next (by omega) g3
  obtain ⟨⟨b1, b2⟩, b3, ⟨b4, b5⟩, b6, b7⟩ := hfa tt ht
  obtain ⟨_, a2, _, _⟩ := catR_facts hr
  simp only [topT, List.cons_append, List.nil_append, List.flatMap_cons, Tok.bytes, uvarI] at e2
  obtain ⟨c1, c2, c3⟩ := h1 _ _ hf e2 (by omega)
  obtain ⟨d1, d2, d3⟩ := txS_canon (m := 24) c2 c3 b3 (by omega)
  rw [h2] at d1 d2 d3
  simp only at d1 d2 d3
  obtain ⟨p1, p2, p3⟩ := h3 _ _ d2 d3 (by omega)
  obtain ⟨q1, q2, q3⟩ := h4 _ _ p2 p3 (by omega)
  have ee : (⟨x1, ⟨t.toArray⟩, x3, x4⟩ : T4) = tt := by
    obtain ⟨y1, y2, y3, y4⟩ := tt
    simp only at b1 b2 b4 b5 b6 b7 c1 d1 p1 q1
    have f1 : x1 = y1 := by omega
    have f3 : x3 = y3 := by omega
    have f4 : x4 = y4 := by omega
    have f2 : (⟨t.toArray⟩ : ByteArray) = y2 := by rw [d1]
    rw [f1, f2, f3, f4]
  refine ⟨q2, zs, ?_, q3⟩
  rw [ee, List.flatMap_append, e1]
  simp
theorem ConC.top {l : List UInt8} {s s1 s2 s3 s4 : RSt} {x1 x3 x4 : Nat} {t : List UInt8} {xs : List Tok} {ps : List T4} (h : ConC l s (xs ++ ps.flatMap topT)) (h1 : nxS l s = (x1, s1)) (h2 : txS 24 l s1 = (t, s2)) (h3 : nxS l s2 = (x3, s3)) (h4 : nxS l s3 = (x4, s4)) :
    ConC l s4 (xs ++ (ps ++ [(⟨(x1 : Int), ⟨t.toArray⟩, (x3 : Int), (x4 : Int)⟩ : T4)]).flatMap topT) := by
  have := (((h.next h1).tx h2).next h3).next h4
  simpa [topT] using this
theorem cat_end {l : List UInt8} {s : RSt} {nid : Int} {tl : List T4} (hc : ConC l s (toksC nid tl)) (hf : s.fl = false) (ha : s.at_ = l.length) (hr : catR nid tl = true) : encC nid tl = wrapB 183 l := by
  have h := hc hf
  rw [ha, List.take_length] at h
  rw [encC, if_pos hr, bodyC_toks, ← h]
theorem cat_only {l : List UInt8} {s : RSt} {nid nid' : Int} {tl tl' : List T4} (hc : CanC l s (toksC nid tl)) (hle : s.at_ ≤ l.length) (hr : catR nid' tl' = true) (he : encC nid' tl' = wrapB 183 l) : (nid' = nid ∧ tl' = tl) ∧ s.fl = false ∧ s.at_ = l.length := by
  rw [encC, if_pos hr] at he
  obtain ⟨hf, ys, h1, h2⟩ := hc nid' tl' hr (wrapB_inj he).symm
  obtain ⟨e1, e2, e3⟩ := toksC_inj h1
  subst e3
  refine ⟨⟨e1, e2⟩, hf, ?_⟩
  have := congrArg List.length h2
  simp at this
  omega
theorem cat_ref {bs l : List UInt8} {s : RSt} {v : Int} {n : Nat} {ps : List T4} (hc : CanC l s ([.num v, .num (n : Int)] ++ ps.flatMap topT)) (hp : ps.length = n ∨ 16 < n) (hb : bs.drop 9 = l) :
    ∀ nid' tl', catR nid' tl' = true → encC nid' tl' = bs → nid' = v ∧ tl' = ps := by
  intro nid' tl' hr he
  have hlb : l = bodyC nid' tl' := by rw [← hb, ← he, encC, if_pos hr]; rfl
  obtain ⟨_, ys, h1, _⟩ := hc _ _ hr hlb
  rw [List.append_assoc] at h1
  obtain ⟨g1, g2, g3⟩ := toksC_2 h1
  obtain ⟨_, _, h16, _⟩ := catR_facts hr
  have hl : tl'.length = ps.length := by omega
  have h4 : tl'.flatMap topT ++ [] = ps.flatMap topT ++ ys := by simpa using g3
  obtain ⟨e3, _⟩ := List.append_inj h4 (by rw [topT_len, topT_len, hl])
  exact ⟨g1, topT_inj hl e3⟩
theorem topB_len {t : T4} (h : t.name.size ≤ 24) : (topB t).length ≤ 64 := by
  have h1 := uvar_le t.id.toNat
  have h2 := uvar_le t.limit.toNat
  have h3 := uvar_le t.hor.toNat
  have h4 := uvar_le t.name.size
  have hz : t.name.data.toList.length = t.name.size := by rw [Array.length_toList, ByteArray.size_data]
  simp only [topB, textB, uvarI, List.length_append, hz]
  omega
theorem tops_len : ∀ {l : List T4}, (∀ t ∈ l, t.name.size ≤ 24) → (l.flatMap topB).length ≤ 64 * l.length
  | [], _ => by simp
  | t :: l, h => by
    have h1 := topB_len (h t (by simp))
    have h2 := tops_len (l := l) fun x hx => h x (by simp [hx])
    simp only [List.flatMap_cons, List.length_append, List.length_cons]
    omega
theorem bodyC_len {nid : Int} {l : List T4} (h : catR nid l = true) : (bodyC nid l).length ≤ 1100 := by
  obtain ⟨_, _, h16, hf⟩ := catR_facts h
  have h1 := tops_len (l := l) fun t ht => (hf t ht).2.1
  have h2 := uvar_le nid.toNat
  have h3 := uvar_le (l.length : Int).toNat
  simp only [bodyC, uvarI, List.length_append]
  omega
theorem encC_small (nid : Int) (l : List T4) : (encC nid l).length ≤ 1109 := by
  unfold encC
  split
  · rename_i h
    have := bodyC_len h
    rw [wrapB_len]; omega
  · simp

/- DecodeCatalogue of the program. -/

/-- What DecodeCatalogue answers of the bytes bs. -/
def DCat (bs : List UInt8) (w w' : World) (e : Ending) : Prop :=
  (∃ (nid : Int) (tl : List T4) (b1 : Option Addr) (c1 : Nat), catR nid tl = true ∧ encC nid tl = bs ∧ (∀ nid' tl', catR nid' tl' = true → encC nid' tl' = bs → nid' = nid ∧ tl' = tl) ∧
    e = .returned (.tuple #[.agg #[.int .i64 nid, .slice b1 tl.length c1], .int .i64 0]) ∧ w'.ownsRow w.heap.size 59 4 (.slice b1 tl.length c1) tl.length (tl.flatMap quad)) ∨
  ((∀ nid tl, catR nid tl = true → encC nid tl ≠ bs) ∧ e = .returned (.tuple #[.agg #[.int .i64 0, .slice none 0 0], .int .i64 72]))

/-- What DecodeCatalogue knows ahead of its catalogue: the reader, the box of it, the answer's place. -/
structure CN (w : World) (p nb : Nat) (l : List UInt8) (s : RSt) (W : World) : Prop where
  rd : ORd W p l s
  below : Below w.heap.size w W
  res : Box W w.heap.size 28 #[.int .i64 0, .slice none 0 0]
  nbx : Box W nb 72 #[.pointer (some ⟨p, 0, none⟩)]
  ord : w.heap.size < p ∧ p < nb
section
variable {w W W' : World} {p nb : Nat} {l : List UInt8} {s s' : RSt}
theorem CN.chg {S : Nat → Prop} (d : CN w p nb l s W) (hc : Chg S W W') (hS : ∀ k, S k → nb < k) : CN w p nb l s W' := by
  obtain ⟨o1, o2⟩ := d.ord
  exact ⟨d.rd.chg hc fun k hk => by have := hS k hk; omega, d.below.trans (hc.below d.below.size fun k hk => by have := hS k hk; omega), d.res.chg hc fun e => by have := hS _ e; omega, d.nbx.chg hc fun e => by have := hS _ e; omega, d.ord⟩
theorem CN.next (d : CN w p nb l s W) (hb : Below W.heap.size W W') : CN w p nb l s W' := d.chg (Chg.of_below hb fun _ => False) fun _ e => e.elim
theorem CN.ncell (d : CN w p nb l s W) : W.cell? ⟨nb, 0, none⟩ = some (.pointer (some ⟨p, 0, none⟩)) := d.nbx.cell 0
theorem CN.step (d : CN w p nb l s W) (h : RAft p l s' W W') : CN w p nb l s' W' := by
  obtain ⟨o1, o2⟩ := d.ord
  obtain ⟨h1, hc⟩ := h
  exact ⟨h1, d.below.trans (hc.below d.below.size fun k hk => by omega), d.res.chg hc (by omega), d.nbx.chg hc (by omega), d.ord⟩
end
/-- .. and its catalogue: the number, the row. -/
structure CM (w : World) (p nb mb : Nat) (l : List UInt8) (s : RSt) (v1 : Int) (b1 : Option Addr) (k1 c1 : Nat) (ps : List T4) (W : World) : Prop where
  dn : CN w p nb l s W
  mbx : Box W mb 28 #[.int .i64 v1, .slice b1 k1 c1]
  hm : nb < mb
  r1 : W.ownsRow (mb + 1) 59 4 (.slice b1 k1 c1) k1 (ps.flatMap quad)
section
variable {w W W' w8 : World} {p nb mb k1 c1 : Nat} {l : List UInt8} {s s' : RSt} {v1 : Int} {b1 : Option Addr} {ps : List T4}
theorem CM.start (d : CN w p nb l s W) (m : Box W mb 28 #[.int .i64 v1, .slice none 0 0]) (hm : nb < mb) : CM w p nb mb l s v1 none 0 0 [] W :=
  ⟨d, m, hm, nil_own _ _ _ _⟩
theorem CM.m1 (d : CM w p nb mb l s v1 b1 k1 c1 ps W) : W.cell? ⟨mb, 1, none⟩ = some (.slice b1 k1 c1) := d.mbx.cell 1
theorem CM.next (d : CM w p nb mb l s v1 b1 k1 c1 ps W) (hb : Below W.heap.size W W') : CM w p nb mb l s v1 b1 k1 c1 ps W' :=
  ⟨d.dn.next hb, d.mbx.below hb d.mbx.lt, d.hm, ownsRow_block d.r1 fun k hk => hb.block k (d.r1.lt k hk).2⟩
theorem CM.step (d : CM w p nb mb l s v1 b1 k1 c1 ps W) (h : RAft p l s' W W') : CM w p nb mb l s' v1 b1 k1 c1 ps W' := by
  have o := d.dn.ord
  have hm := d.hm
  exact ⟨d.dn.step h, d.mbx.chg h.2 (by omega), d.hm, ownsRow_block d.r1 fun k hk => h.2.block k (d.r1.lt k hk).2 (by have := (d.r1.lt k hk).1; omega)⟩
/-- A topic is appended, and the slice laid into its field. -/
theorem CM.top {g cap : Nat} {q : T4} (d : CM w p nb mb l s v1 b1 k1 c1 ps W) (hg : W.grownBy w8 (Value.slice b1 k1 c1).ownBlock) (hr : w8.ownsRow (mb + 1) 59 4 (.slice (some ⟨g, 0, none⟩) (k1 + 1) cap) (k1 + 1) (ps.flatMap quad ++ quad q)) :
    CM w p nb mb l s v1 (some ⟨g, 0, none⟩) (k1 + 1) cap (ps ++ [q]) (w8.setCell ⟨mb, 1, none⟩ (.slice (some ⟨g, 0, none⟩) (k1 + 1) cap)) := by
  have hlt : ∀ k, (Value.slice b1 k1 c1).ownBlock = some k → mb + 1 ≤ k := fun k hk => (d.r1.lt k hk).1
  have hm := d.hm
  have q1 : CN w p nb l s w8 := d.dn.chg (Chg.of_grown hg) fun k hk => by have := hlt k hk.symm; omega
  refine ⟨q1.chg (S := fun k => k = mb) ((Chg.refl (fun k => k = mb) w8).set1 rfl _ _) fun k hk => by omega, ?_, d.hm, ?_⟩
  · have := (d.mbx.grown hg fun e => by have := hlt _ e.symm; omega).set_ 1 (.slice (some ⟨g, 0, none⟩) (k1 + 1) cap)
    simpa using this
  · rw [List.flatMap_append]
    have h3 : (ps.flatMap quad ++ [q].flatMap quad) = ps.flatMap quad ++ quad q := by simp
    rw [h3]
    exact ownsRow_block hr fun k hk => Below.heap_setCell _ _ _ _ (by show k ≠ mb; have := (hr.lt k hk).1; omega)
end
/-- Every number of it is small, every name short. -/
def SmT (ps : List T4) : Prop := ∀ t ∈ ps, (0 ≤ t.id ∧ t.id < 4611686018427387904) ∧ t.name.size ≤ 24
theorem SmT.nil : SmT [] := fun x h => by cases h
theorem SmT.next {ps : List T4} {l t : List UInt8} {s s1 s2 : RSt} {x : Nat} {y z : Int} (h : SmT ps) (hu : nxS l s = (x, s1)) (ht : txS 24 l s1 = (t, s2)) (ha : s1.at_ ≤ l.length) : SmT (ps ++ [⟨(x : Int), ⟨t.toArray⟩, y, z⟩]) := fun q hq => by
  have h1 := nxS_lt l s
  rw [hu] at h1
  have h2 := (txS_le (most := 24) ha).2.2
  rw [ht] at h2
  simp only [List.mem_append, List.mem_singleton] at hq
  rcases hq with hq | rfl
  · exact h q hq
  · refine ⟨⟨?_, ?_⟩, ?_⟩
    · show (0 : Int) ≤ (x : Int); omega
    · simp only at h1; show (x : Int) < _; omega
    · show t.toArray.size ≤ 24
      rw [List.size_toArray]; exact h2
theorem SmT.wf {ps : List T4} (h : SmT ps) : ∀ t ∈ ps, (Lit.int .i64 t.id).wf = true ∧ t.name.size ≤ maxLen := fun x hx => by
  obtain ⟨⟨h1, h2⟩, h3⟩ := h x hx
  exact ⟨WalkArith.wf_i64 ⟨by omega, by omega⟩, by unfold maxLen; omega⟩
theorem dcat_yes {bs l : List UInt8} {w W W' : World} {p nb mb k1 c1 : Nat} {st : RSt} {v1 : Int} {b1 : Option Addr} {ps : List T4} (d : CM w p nb mb l st v1 b1 k1 c1 ps W)
    (hs : ps.length = k1) (hco : ConC l st (toksC v1 ps)) (hca : CanC l st (toksC v1 ps)) (hle : st.at_ ≤ l.length) (hE : st.fl = false ∧ st.at_ = l.length) (hr : catR v1 ps = true) (hbl : bs = wrapB 183 l)
    (hc : Chg (fun k => k = w.heap.size) W W') : DCat bs w W' (.returned (.tuple #[.agg #[.int .i64 v1, .slice b1 k1 c1], .int .i64 0])) := by
  have o := d.dn.ord
  have hm := d.hm
  subst hs
  refine .inl ⟨v1, ps, b1, c1, hr, ?_, ?_, rfl, ?_⟩
  · rw [hbl]; exact cat_end hco hE.1 hE.2 hr
  · intro nid' tl' hr' he'
    exact (cat_only hca hle hr' (he'.trans hbl)).1
  · exact ownsRow_low (ownsRow_block d.r1 fun k hk => hc.block k (d.r1.lt k hk).2 (by have := (d.r1.lt k hk).1; omega)) (by omega)
theorem chg2 (W : World) (B : Nat) (b0 b1 : Value) : Chg (fun k => k = B) W ((W.setCell ⟨B, 0, none⟩ b0).setCell ⟨B, 1, none⟩ b1) :=
  ((Chg.refl (fun k => k = B) W).set1 rfl _ _).set1 rfl _ _
theorem toksC_fin {v1 : Int} {n1 : Nat} {ps : List T4} (hp : ps.length = n1) : ([.num v1, .num (n1 : Int)] : List Tok) ++ ps.flatMap topT = toksC v1 ps := by
  subst hp; rfl

set_option maxRecDepth 100000 in
set_option maxHeartbeats 16000000 in
theorem manDecodeC (A : Option Addr) (n c : Nat) (bs : List UInt8) (w : World) (hA : Rd w w.heap.size A (bv bs)) (hn : bs.length = n) (hnc : n ≤ c) (hmx : n ≤ 140737488355000) :
    Calls Tryz.prog 10 #[.slice A n c] w fun e w' => DCat bs w w' e ∧ Below w.heap.size w w' := by
  have hb0 : Below w.heap.size w (w.alloc (.cells #[.int .i64 0, .slice none 0 0] 28)) := (Below.refl _ _).alloc (Nat.le_refl _) _
  have HB := Lib.hid hb0
  have HA := Lib.hid (hA.below hb0)
  have Hn := Lib.hid hn
  have HR0 := Lib.hid (Box.new w 28 #[.int .i64 0, .slice none 0 0])
  by_cases hx : ∃ l : List UInt8, l.length < 4294967296 ∧ bs = wrapB 183 l
  case neg =>
    have HN : Hid (∀ body : List UInt8, body.length < 4294967296 → bs ≠ wrapB 183 body) := fun body h1 h2 => hx ⟨body, h1, h2⟩
    have HNo : Hid (∀ nid tl, catR nid tl = true → encC nid tl ≠ bs) := fun nid tl hr he => by
      have h1 := bodyC_len hr
      rw [encC, if_pos hr] at he
      exact HN.out _ (by omega) he.symm
    clear hx hA hn hb0
    go_enter Tryz.func10, Tryz.ntmps10
    go_wp2_with (go_at_call 27; refine (octUnwrapNo 183 A n c bs _ HN.out (HA.out.mono (by simp)) Hn.out hnc hmx).mono ?_; rintro e w1 ⟨v, rfl, hb1⟩; have hz := HR0.out.below hb1 (by simp); have hzc := hz.cell; have hzl := hz.lt; have hzf := hz.free; have HB1 := Lib.hid (HB.out.trans (hb1.mono (by simp))); clear hb1 hz)
    refine bodyPost_ret (v := .tuple #[.agg #[.int .i64 0, .slice none 0 0], .int .i64 72]) ?_ rfl ?_
    · simp [results, Tryz.results10, go_sem, hzc]
    refine ⟨.inr ⟨HNo.out, rfl⟩, ?_⟩
    repeat (first | with_reducible exact HB1.out | refine Below.setCell ?_ (by simp) _)
  obtain ⟨i1, hi1, hz1, hs1, hy1⟩ := info_parts info_topic
  obtain ⟨l, hl32, hbl⟩ := hx
  have Hbl := Lib.hid hbl
  have hlx : l.length ≤ 4294967296 := by omega
  have Hlx : Hid (l.length ≤ 140737488355328) := by show _ ≤ _; omega
  clear hbl hA hn hb0
  rcases h1 : nxS l ⟨0, false⟩ with ⟨v1, s1⟩
  rcases h6 : cnS 16 l s1 with ⟨n1, s6⟩
  have hn1 : n1 ≤ 16 := by have := cnS_le 16 (l := l) (s := s1); rw [h6] at this; exact this
  have V1 := Lib.hid h1
  have V6 := Lib.hid h6
  clear h1 h6
  go_enter Tryz.func10, Tryz.ntmps10
  go_wp2_with (first
    | (go_at_call 27; refine (octUnwrapYes 183 A n c bs l _ Hbl.out hl32 (HA.out.mono (by simp)) Hn.out hnc hmx).mono ?_; rintro e w1 ⟨bb, cb, rfl, hrd, hb1⟩; have K1 := Lib.hid (And.intro hrd (And.intro (HB.out.trans (hb1.mono (by simp))) (HR0.out.below hb1 (by simp)))); clear hrd hb1)
    | (go_at_call 28; refine (octNewR bb l.length cb l _ K1.out.1 rfl Hlx.out).mono ?_; rintro e w2 ⟨p, rfl, hR, hp, hb2⟩; have hwp := K1.out.2.2.lt; have hpl := hR.lt; have D0 := Lib.hid (show CN w p w2.heap.size l ⟨0, false⟩ (w2.alloc (.cells #[.pointer (some ⟨p, 0, none⟩)] 72)) from ⟨hR.below (Below.al' _ _), (K1.out.2.1.trans (hb2.mono K1.out.2.1.size)).alloc (Nat.le_trans K1.out.2.1.size hb2.size) _, (K1.out.2.2.below hb2 hwp).alloc _, Box.new _ _ _, by omega, hpl⟩); clear hR hb2 K1)
    | (go_at_call 29; refine (octNext p l ⟨0, false⟩ _ D0.out.rd Hlx.out).mono ?_; rintro e w3 ⟨he, ha⟩; rw [V1.out] at he ha; simp only at he ha; subst he; have hd := D0.out.step ha; have hlt3 := hd.nbx.lt; have D1 := Lib.hid (CM.start (hd.next (Below.al' w3 (.cells #[.int .i64 v1, .slice none 0 0] 28))) (Box.new w3 28 #[.int .i64 v1, .slice none 0 0]) hlt3); have hnc1 := D1.out.dn.ncell; clear ha D0 hd)
    | (go_at_call 30; refine (octCount p 16 (by omega) l s1 _ D1.out.dn.rd Hlx.out).mono ?_; rintro e w8 ⟨he, ha⟩; rw [V6.out] at he ha; simp only at he ha; subst he; have D8 := Lib.hid (D1.out.step ha); clear ha D1 hnc1))
  generalize hmb : w3.heap.size = mb at D8
  go_loopw [24] (fun i wr => ∃ (k : Nat) (ps : List T4) (b : Option Addr) (cc : Nat) (st : RSt), k ≤ n1 ∧ i = .int .i64 k ∧ ps.length = k ∧ CM w p w2.heap.size mb l st v1 b k cc ps wr ∧ ConC l st (([.num (v1 : Int), .num (n1 : Int)] : List Tok) ++ ps.flatMap topT) ∧ CanC l st (([.num (v1 : Int), .num (n1 : Int)] : List Tok) ++ ps.flatMap topT) ∧ SmT ps)
    (fun i _ => n1 - (intOf i).toNat)
  case atStart =>
    refine ⟨0, [], none, 0, s6, Nat.zero_le _, rfl, rfl, D8.out, ?_, ?_, SmT.nil⟩
    · simpa using ((ConC.start l).next V1.out).count V6.out
    · exact (CanC.first (.nx V1.out)).second (by omega) (.cn V6.out (by omega))
  case round =>
    clear D8
    obtain ⟨k, ps, b, cc, st, hk, rfl, hpl2, hD, hCo, hCa, hSm⟩ := hrel
    have HD := Lib.hid hD
    have HP := Lib.hid (And.intro hpl2 (And.intro hCo (And.intro hCa hSm)))
    have hmc := hD.m1
    have hncl := hD.dn.ncell
    have hml := hD.mbx.lt
    have hmf := hD.mbx.free
    clear hD hpl2 hCo hCa hSm
    by_cases hlt : k < n1
    · rcases hv1 : nxS l st with ⟨x1, t1⟩
      rcases hv2 : txS 24 l t1 with ⟨x2, t2⟩
      rcases hv3 : nxS l t2 with ⟨x3, t3⟩
      rcases hv4 : nxS l t3 with ⟨x4, t4⟩
      have hta := nxS_le (l := l) HD.out.dn.rd.le
      rw [hv1] at hta
      have HTa := Lib.hid hta
      have X1 := Lib.hid hv1
      have X2 := Lib.hid hv2
      have X3 := Lib.hid hv3
      have X4 := Lib.hid hv4
      clear hv1 hv2 hv3 hv4 hta
      go_wp2
      have HDd := Lib.hid (HD.out.next (below_drew1 _))
      have hS0 := And.intro HDd.out.dn.ncell HDd.out.m1
      refine WT.start (fun w' => w'.cell? ⟨w2.heap.size, 0, none⟩ = some (.pointer (some ⟨p, 0, none⟩)) ∧ w'.cell? ⟨mb, 1, none⟩ = some (.slice b k cc)) 15 (by kernel_rfl) ?_
      refine WT.take 0 (v := ?_) rfl (by kernel_rfl) (by kernel_rfl) (by kernel_rfl) (by kernel_rfl) (fun _ _ _ h => h) (Or.inl ⟨by rfl, ?hy⟩) hS0 ?_
      case hy => first | (intro w hSw; go_simp; done) | (intro w hSw; go_simp; with_reducible rfl)
      simp only [Act.put, List.setIfInBounds_toArray, List.set_cons_zero, List.set_cons_succ]
      refine WT.take 1 (v := ?_) rfl (by kernel_rfl) (by kernel_rfl) (by kernel_rfl) (by kernel_rfl) (fun _ _ _ h => h) (Or.inl ⟨by rfl, ?hy⟩) hS0 ?_
      case hy => first | (intro w hSw; go_simp; done) | (intro w hSw; go_simp; with_reducible rfl)
      simp only [Act.put, List.setIfInBounds_toArray, List.set_cons_zero, List.set_cons_succ]
      refine WT.take 2 (v := ?_) rfl (by kernel_rfl) (by kernel_rfl) (by kernel_rfl) (by kernel_rfl) (fun _ _ _ h => h) (Or.inl ⟨by rfl, ?hy⟩) hS0 ?_
      case hy => first | (intro w hSw; go_simp; done) | (intro w hSw; go_simp; with_reducible rfl)
      simp only [Act.put, List.setIfInBounds_toArray, List.set_cons_zero, List.set_cons_succ]
      refine WT.take 4 (v := ?_) rfl (by kernel_rfl) (by kernel_rfl) (by kernel_rfl) (by kernel_rfl) (fun _ _ _ h => h) (Or.inl ⟨by rfl, ?hy⟩) hS0 ?_
      case hy => first | (intro w hSw; go_simp; done) | (intro w hSw; go_simp; with_reducible rfl)
      simp only [Act.put, List.setIfInBounds_toArray, List.set_cons_zero, List.set_cons_succ]
      refine WT.take 5 (v := ?_) rfl (by kernel_rfl) (by kernel_rfl) (by kernel_rfl) (by kernel_rfl) (fun _ _ _ h => h) (Or.inl ⟨by rfl, ?hy⟩) hS0 ?_
      case hy => first | (intro w hSw; go_simp; done) | (intro w hSw; go_simp; with_reducible rfl)
      simp only [Act.put, List.setIfInBounds_toArray, List.set_cons_zero, List.set_cons_succ]
      refine WT.take 7 (v := ?_) rfl (by kernel_rfl) (by kernel_rfl) (by kernel_rfl) (by kernel_rfl) (fun _ _ _ h => h) (Or.inl ⟨by rfl, ?hy⟩) hS0 ?_
      case hy => first | (intro w hSw; go_simp; done) | (intro w hSw; go_simp; with_reducible rfl)
      simp only [Act.put, List.setIfInBounds_toArray, List.set_cons_zero, List.set_cons_succ]
      refine WT.take 9 (v := ?_) rfl (by kernel_rfl) (by kernel_rfl) (by kernel_rfl) (by kernel_rfl) (fun _ _ _ h => h) (Or.inl ⟨by rfl, ?hy⟩) hS0 ?_
      case hy => first | (intro w hSw; go_simp; done) | (intro w hSw; go_simp; with_reducible rfl)
      simp only [Act.put, List.setIfInBounds_toArray, List.set_cons_zero, List.set_cons_succ]
      refine WT.step 3 rfl (by kernel_rfl) (by decide) fun K hK => ?_
      go_simp
      go_at_call 29
      refine (octNext p l st _ HDd.out.dn.rd Hlx.out).mono ?_
      rintro e w10 ⟨he, ha⟩
      rw [X1.out] at he ha
      simp only at he ha
      subst he
      have G1 := Lib.hid (HDd.out.step ha)
      clear ha HDd hS0
      have hS1 := And.intro G1.out.dn.ncell G1.out.m1
      go_simp
      refine hK.out _ _ hS1 ?_
      clear hK K
      refine WT.step 6 rfl (by kernel_rfl) (by decide) fun K hK => ?_
      go_simp
      go_at_call 32
      refine (octTx p 24 l t1 _ G1.out.dn.rd Hlx.out (by omega)).mono ?_
      rintro e w11 ⟨he, ha⟩
      rw [X2.out] at he ha
      simp only [strV] at he ha
      subst he
      have G2 := Lib.hid (G1.out.step ha)
      clear ha G1 hS1
      have hS2 := And.intro G2.out.dn.ncell G2.out.m1
      go_simp
      refine hK.out _ _ hS2 ?_
      clear hK K
      refine WT.step 8 rfl (by kernel_rfl) (by decide) fun K hK => ?_
      go_simp
      go_at_call 29
      refine (octNext p l t2 _ G2.out.dn.rd Hlx.out).mono ?_
      rintro e w12 ⟨he, ha⟩
      rw [X3.out] at he ha
      simp only at he ha
      subst he
      have G3 := Lib.hid (G2.out.step ha)
      clear ha G2 hS2
      have hS3 := And.intro G3.out.dn.ncell G3.out.m1
      go_simp
      refine hK.out _ _ hS3 ?_
      clear hK K
      refine WT.step 10 rfl (by kernel_rfl) (by decide) fun K hK => ?_
      go_simp
      go_at_call 29
      refine (octNext p l t3 _ G3.out.dn.rd Hlx.out).mono ?_
      rintro e w13 ⟨he, ha⟩
      rw [X4.out] at he ha
      simp only at he ha
      subst he
      have G4 := Lib.hid (G3.out.step ha)
      clear ha G3 hS3
      have hS4 := And.intro G4.out.dn.ncell G4.out.m1
      go_simp
      refine hK.out _ _ hS4 ?_
      clear hK K
      refine WT.step 11 rfl (by kernel_rfl) (by decide) fun K hK => ?_
      go_simp
      refine hK.out _ _ hS4 ?_
      clear hK K
      refine WT.step 12 rfl (by kernel_rfl) (by decide) fun K hK => ?_
      go_simp
      have G5 := Lib.hid (G4.out.next (Below.al' w13 (.cells #[.int .i64 x1, .string ⟨x2.toArray⟩, .int .i64 x3, .int .i64 x4] 59)))
      refine hK.out _ _ (And.intro G5.out.dn.ncell G5.out.m1) ?_
      clear hK K
      refine WT.step 13 rfl (by kernel_rfl) (by decide) fun K hK => ?_
      refine step_append_lies _ (by rfl) _ _ _ (by rfl) (mb + 1) 59 i1 _ 4 40 Tryz.underlying26 hi1 hz1 hs1 hy1 rfl (by omega) (.slice b k cc) k (ps.flatMap quad) (by rfl) G5.out.r1
            ⟨w13.heap.size, 0, none⟩ 1 1 (quad ⟨(x1 : Int), ⟨x2.toArray⟩, (x3 : Int), (x4 : Int)⟩) (by rfl) (by rfl) (World.news_of_block (cs := #[.int .i64 x1, .string ⟨x2.toArray⟩, .int .i64 x3, .int .i64 x4]) (t := 59) (fr := (0, 0)) (heap_alloc_new w13 _)) (by simp [quad, Value.oneCell']) (by omega) (by unfold maxLen; omega) (by omega) (by have := G4.out.mbx.lt; simp; omega) (w13.heap.size + 1) (by simp) ?_
      intro g cap w14 hown hgrow hat hlt4
      have gr1 := (G5.out.dn.chg (Chg.of_grown hgrow) (fun j hj => by have := (G5.out.r1.lt j hj.symm).1; have := G5.out.hm; omega)).ncell
      have hq := G5.out.mbx.grown hgrow (fun e => by have := (G5.out.r1.lt _ e.symm).1; omega)
      have hqc := hq.cell
      have hqf := hq.free
      have hql := hq.lt
      have hq6 : w14.cell? ⟨mb, 1, none⟩ = some (.slice b k cc) := hq.cell 1
      have D9 := Lib.hid (G5.out.top hgrow hown)
      clear hq hown hgrow hat G5 G4
      go_simp
      refine hK.out _ _ (And.intro gr1 hq6) ?_
      clear hK K
      refine WT.step 14 rfl (by kernel_rfl) (by decide) fun K hK => ?_
      go_simp
      refine hK.out _ _ (And.intro gr1 hq6) ?_
      clear hK K
      refine WT.last 15 rfl (by kernel_rfl) rfl fun K hK => ?_
      go_simp
      refine hK.out _ _ ?_
      clear hK K
      refine WT.done (by kernel_rfl) ?_
      go_wp2
      go_roundw
      case rel => exact ⟨k + 1, ps ++ [⟨(x1 : Int), ⟨x2.toArray⟩, (x3 : Int), (x4 : Int)⟩], _, _, t4, by omega, by go_num, by simp [HP.out.1], D9.out, HP.out.2.1.top X1.out X2.out X3.out X4.out, HP.out.2.2.1.top (by have := HP.out.1; omega) (.nx X1.out) X2.out (.nx X3.out) (.nx X4.out), HP.out.2.2.2.next X1.out X2.out HTa.out⟩
      case measure => simp [intOf]; omega
    · obtain rfl : k = n1 := by omega
      have hle := HD.out.dn.rd.le
      have HF := Lib.hid (show ConC l st (toksC v1 ps) ∧ CanC l st (toksC v1 ps) ∧ SmT ps by rw [← toksC_fin HP.out.1]; exact HP.out.2)
      have hrc := HD.out.dn.res.cell
      have hrl := HD.out.dn.res.lt
      have hrf := HD.out.dn.res.free
      have hmk := HD.out.mbx.cell
      have hord := HD.out.dn.ord
      have hfd := field0
      by_cases hE : st.fl = false ∧ st.at_ = l.length
      case neg =>
        have HNo : Hid (∀ nid tl, catR nid tl = true → encC nid tl ≠ bs) := fun nid tl hr he => hE (cat_only HF.out.2.1 hle hr (he.trans Hbl.out)).2
        have HE := Lib.hid hE
        clear hE
        go_wp2_with (go_at_call 31; refine (octEnd p l st _ HD.out.dn.rd).mono ?_; rintro e w10 ⟨x, y, rfl, hx, hb6⟩; have hx0 : x ≠ 0 := (fun h => HE.out (hx.mpr h)); have hxb : (x != 0) = true := (by simpa using hx0); have hd := HD.out.next hb6; have hsc := hd.dn.res.cell; have hsl' := hd.dn.res.lt; have hsf := hd.dn.res.free; have hmk2 := hd.mbx.cell; have hml2 := hd.mbx.lt; have D10 := Lib.hid hd; clear hx hb6 hd)
        refine bodyPost_ret (v := .tuple #[.agg #[.int .i64 0, .slice none 0 0], .int .i64 72]) ?_ rfl ?_
        · simp [results, Tryz.results10, go_sem, hsc]
        refine ⟨.inr ⟨HNo.out, rfl⟩, ?_⟩
        repeat (first | with_reducible exact D10.out.dn.below | refine Below.setCell ?_ (by simp) _)
      have HE := Lib.hid hE
      clear hE
      by_cases hr : catR v1 ps = true
      case neg =>
        have HNo : Hid (∀ nid tl, catR nid tl = true → encC nid tl ≠ bs) := fun nid tl hr' he => by
          obtain ⟨⟨rfl, rfl⟩, _⟩ := cat_only HF.out.2.1 hle hr' (he.trans Hbl.out)
          exact hr hr'
        have HQ := Lib.hid (catE_bad (by simpa using hr))
        clear hr
        go_wp2_with (first
          | (go_at_call 31; refine (octEnd p l st _ HD.out.dn.rd).mono ?_; rintro e w10 ⟨x, y, rfl, hx, hb6⟩; obtain rfl : x = 0 := (hx.mp HE.out); have hd := HD.out.next hb6; have hsc := hd.dn.res.cell; have hsl' := hd.dn.res.lt; have hsf := hd.dn.res.free; have hmk2 := hd.mbx.cell; have hml2 := hd.mbx.lt; have D10 := Lib.hid hd; clear hx hb6 hd)
          | (go_at_call 8; rw [show k = ps.length from HP.out.1.symm]; refine (checkCat_any v1 _ cc ps _ (ownsRow_rd D10.out.r1) HF.out.2.2.wf).mono ?_; rintro e w11 ⟨he, hb7⟩; rw [← HQ.out] at he; subst he; have hd := D10.out.next hb7; have htc := hd.dn.res.cell; have htl := hd.dn.res.lt; have htf := hd.dn.res.free; have hmk3 := hd.mbx.cell; have hml3 := hd.mbx.lt; have D11 := Lib.hid hd; clear hb7 hd))
        refine bodyPost_ret (v := .tuple #[.agg #[.int .i64 0, .slice none 0 0], .int .i64 72]) ?_ rfl ?_
        · simp [results, Tryz.results10, go_sem, htc]
        refine ⟨.inr ⟨HNo.out, rfl⟩, ?_⟩
        repeat (first | with_reducible exact D11.out.dn.below | refine Below.setCell ?_ (by simp) _)
      have HQ := Lib.hid (catE_good hr)
      have HR := Lib.hid hr
      clear hr
      go_wp2_with (first
        | (go_at_call 31; refine (octEnd p l st _ HD.out.dn.rd).mono ?_; rintro e w10 ⟨x, y, rfl, hx, hb6⟩; obtain rfl : x = 0 := (hx.mp HE.out); have hd := HD.out.next hb6; have hsc := hd.dn.res.cell; have hsl' := hd.dn.res.lt; have hsf := hd.dn.res.free; have hmk2 := hd.mbx.cell; have hml2 := hd.mbx.lt; have D10 := Lib.hid hd; clear hx hb6 hd)
        | (go_at_call 8; rw [show k = ps.length from HP.out.1.symm]; refine (checkCat_any v1 _ cc ps _ (ownsRow_rd D10.out.r1) HF.out.2.2.wf).mono ?_; rintro e w11 ⟨he, hb7⟩; rw [← HQ.out] at he; subst he; have hd := D10.out.next hb7; have htc := hd.dn.res.cell; have htl := hd.dn.res.lt; have htf := hd.dn.res.free; have hmk3 := hd.mbx.cell; have hml3 := hd.mbx.lt; have D11 := Lib.hid hd; clear hb7 hd))
      refine bodyPost_ret (v := .tuple #[.agg #[.int .i64 v1, .slice b k cc], .int .i64 0]) ?_ rfl ?_
      · simp [results, Tryz.results10, go_sem, htc]
      refine ⟨dcat_yes D11.out HP.out.1 HF.out.1 HF.out.2.1 hle HE.out HR.out Hbl.out (chg2 _ _ _ _), ?_⟩
      repeat (first | with_reducible exact D11.out.dn.below | refine Below.setCell ?_ (by simp) _)

/- DecodeCatalogue of the document's answer. -/

section
variable {w W W' : World} {p : Nat} {l : List UInt8} {s s' : RSt}
end
section
variable {w W W' w8 : World} {p mb k1 c1 : Nat} {l : List UInt8} {s s' : RSt} {v1 : Int} {b1 : Option Addr} {ps : List T4}
end
section
variable {w W W' : World} {p mb k1 c1 pb : Nat} {l : List UInt8} {s s' : RSt} {v1 : Int} {b1 : Option Addr} {ps : List T4} {x x' z z' u u' : Int} {y y' : ByteArray}
end
/- ManifestCatalogues: spoiltCat, and the law walked whole. -/

/-- What ManifestCatalogues knows between its calls. -/
structure CSC (w : World) (M N : Array Value) (bn g : Nat) (l : List T4) (W : World) : Prop where
  m : Box W w.heap.size 28 M
  n : Box W bn 28 N
  og : Own W (w.heap.size + 1) g 59 (l.flatMap quad ++ [.int .i64 (-77), .string ByteArray.empty, .int .i64 0, .int .i64 0])
  below : Below w.heap.size w W
  far : bn ≠ g
section
variable {w : World} {M N : Array Value} {bn g : Nat} {l l' : List T4} {W W' : World}
theorem CSC.next (s : CSC w M N bn g l W) (hb : Below W.heap.size W W') : CSC w M N bn g l W' :=
  ⟨s.m.below hb s.m.lt, s.n.below hb s.n.lt, s.og.below hb s.og.lt, s.below.trans (hb.mono s.below.size), s.far⟩
theorem CSC.cat (s : CSC w M N bn g l W) (hc : Chg (fun x => x = g) W W') (og : Own W' (w.heap.size + 1) g 59 (l'.flatMap quad ++ [.int .i64 (-77), .string ByteArray.empty, .int .i64 0, .int .i64 0])) : CSC w M N bn g l' W' := by
  have f1 := s.far
  have g1 := og.1
  exact ⟨s.m.chg hc (by omega), s.n.chg hc (by omega), og, s.below.trans (hc.below s.below.size (by intro x hx; omega)), s.far⟩
end
theorem octEncodeC_len (nid : Int) (A : Option Addr) (c n : Nat) (l : List T4) (w : World) (hn : l.length = n) (hA : Rd w w.heap.size A (l.flatMap quad)) (hws : ∀ t ∈ l, (Lit.int .i64 t.id).wf = true ∧ t.name.size ≤ maxLen) :
    Calls Tryz.prog 5 #[.agg #[.int .i64 nid, .slice A n c]] w fun e w' => (∃ v, e = .returned v) ∧ Below w.heap.size w w' := by
  subst hn
  exact (octEncodeC nid A c l w hA hws).mono fun e w' ⟨b, cap, h, _, hb⟩ => ⟨⟨_, h⟩, hb⟩
theorem sameCat_n (nid : Int) (A A' : Option Addr) (c c' n : Nat) (l : List T4) (w : World) (hn : l.length = n) (hA : Rd w w.heap.size A (l.flatMap quad)) (hA' : Rd w w.heap.size A' (l.flatMap quad)) (hmx : n ≤ maxLen) :
    Calls Tryz.prog 12 #[.agg #[.int .i64 nid, .slice A n c], .agg #[.int .i64 nid, .slice A' n c']] w fun e w' => e = .returned (.bool true) ∧ Below w.heap.size w w' := by
  subst hn
  exact sameCat_eq nid A A' c c' l w hA hA' hmx
/-- What either DecodeCatalogue answers, said once. -/
theorem dcat_one (bs : List UInt8) : ∃ (i0 : Int) (P0 : List T4) (er : Int), P0.length ≤ 64 ∧ ∀ (w w' : World) (e : Ending), DCat bs w w' e → ∃ (b1 : Option Addr) (c1 : Nat),
    e = .returned (.tuple #[.agg #[.int .i64 i0, .slice b1 P0.length c1], .int .i64 er]) ∧ w'.ownsRow w.heap.size 59 4 (.slice b1 P0.length c1) P0.length (P0.flatMap quad) := by
  by_cases hx : ∃ nid tl, catR nid tl = true ∧ encC nid tl = bs
  · obtain ⟨i0, P0, hr, he⟩ := hx
    refine ⟨i0, P0, 0, by have := (catR_facts hr).2.2.1; omega, ?_⟩
    rintro w w' e (⟨nid, tl, b1, c1, h1, h2, h3, h4, h5⟩ | ⟨h1, h2⟩)
    · obtain ⟨rfl, rfl⟩ := h3 _ _ hr he
      exact ⟨b1, c1, h4, h5⟩
    · exact absurd he (h1 _ _ hr)
  · refine ⟨0, [], 72, by simp, ?_⟩
    rintro w w' e (⟨nid, tl, b1, c1, h1, h2, _⟩ | ⟨h1, h2⟩)
    · exact absurd ⟨_, _, h1, h2⟩ hx
    · exact ⟨none, 0, h2, nil_own _ _ _ _⟩
theorem dcat_ret {bs : List UInt8} {w w' : World} {e : Ending} (h : DCat bs w w' e) : ∃ v, e = .returned v := by
  obtain ⟨_, _, _, _, h1⟩ := dcat_one bs
  obtain ⟨_, _, h2, _⟩ := h1 w w' e h
  exact ⟨_, h2⟩

end Go.Proofs.YtdeaefbjddodjaaGreatDoor
namespace Go.Proofs.YtdeaefbjddodjaaGreatDoor
open Go.RowKit Go.Maps
theorem encM_small2 (id ns nx mk cl : Int) (segs : List Int) (prods : List P3) : (encM id ns nx mk cl segs prods).length ≤ 2639 := by
  unfold encM
  split
  · rename_i hr; rw [wrapB_len]; have := bodyM_len hr; omega
  · simp
theorem bv_set2 (l : List UInt8) (k : Nat) (x : UInt8) : (bv l).set k (.int .u8 x.toNat) = bv (l.set k x) := by simp [bv, List.map_set]
theorem Own.bvs2 {w : World} {B g : Nat} {t : TypeId} {l : List UInt8} (h : Own w B g t (bv l)) {i : Nat} (hi : i < l.length) (x : UInt8) : Own (w.setCell ⟨g, i, none⟩ (.int .u8 x.toNat)) B g t (bv (l.set i x)) := by
  have := h.set_ (i := i) (by simp [bv]; omega) (.int .u8 x.toNat)
  rwa [bv_set2] at this

theorem dman_of {id ns nx mk cl : Int} {segs : List Int} {prods : List P3} (hr : manR id ns nx mk cl segs prods = true) {bs : List UInt8} (hb : encM id ns nx mk cl segs prods = bs) {w w' : World} {e : Ending} (h : DMan bs w w' e) :
    ∃ (b1 : Option Addr) (c1 : Nat) (b2 : Option Addr) (c2 : Nat), e = .returned (.tuple #[manV id ns nx mk cl (.slice b1 segs.length c1) (.slice b2 prods.length c2), .int .i64 0]) ∧ Rd w' w'.heap.size b1 (segs.map (.int .i64)) ∧ Rd w' w'.heap.size b2 (prods.flatMap tri) := by
  rcases h with ⟨id', ns', nx', mk', cl', segs', prods', b1, c1, b2, c2, h1, h2, h3, h4, h5, h6, h7⟩ | ⟨h1, h2⟩
  · obtain ⟨rfl, rfl, rfl, rfl, rfl, rfl, rfl⟩ := h3 _ _ _ _ _ _ _ hr hb
    exact ⟨b1, c1, b2, c2, h4, ownsRow_rd h5, ownsRow_rd h6⟩
  · exact absurd hb (h1 _ _ _ _ _ _ _ hr)
theorem dman_no {bs : List UInt8} (hn : ∀ id ns nx mk cl segs prods, manR id ns nx mk cl segs prods = true → encM id ns nx mk cl segs prods ≠ bs) {w w' : World} {e : Ending} (h : DMan bs w w' e) :
    e = .returned (.tuple #[manV 0 0 0 0 0 (.slice none 0 0) (.slice none 0 0), .int .i64 72]) := by
  rcases h with ⟨id', ns', nx', mk', cl', segs', prods', b1, c1, b2, c2, h1, h2, _⟩ | ⟨h1, h2⟩
  · exact absurd h2 (hn _ _ _ _ _ _ _ h1)
  · exact h2
theorem rd_nil0 (w : World) (B : Nat) (A : Option Addr) : Rd w B A (([] : List P3).flatMap tri) := Rd.nil _ _ _

theorem rd_new' (w : World) (ar : Array Value) (t : TypeId) (k : Nat) (h : w.heap.size = k) : Rd (w.alloc (.cells ar t)) (k + 1) (some ⟨k, 0, none⟩) ar.toList := by subst h; exact rd_new w ar t
theorem Own.rd_all {w : World} {B g : Nat} {t : TypeId} {cs : List Value} (h : Own w B g t cs) : Rd w w.heap.size (some ⟨g, 0, none⟩) cs := h.rd h.lt fun _ _ h => h

set_option maxRecDepth 100000 in
set_option maxHeartbeats 4000000 in
theorem small_any (w : World) : Calls Tryz.prog 21 #[.int .i64 3] w fun e w' =>
    ∃ b c, e = .returned (manV 3 2 0 0 0 (.slice b 1 c) (.slice none 0 0)) ∧ Rd w' w'.heap.size b (([1] : List Int).map (.int .i64)) ∧ Below w.heap.size w w' := by
  obtain ⟨i0, hi0, hz0, hs0, hy0⟩ := info_parts info_int
  have hb1 : Below w.heap.size w ((w.alloc (.cells #[.int .i64 0, .int .i64 0, .int .i64 0, .int .i64 0, .int .i64 0, .slice none 0 0, .slice none 0 0] 25)).alloc (.cells #[.int .i64 3, .int .i64 2, .int .i64 0, .int .i64 0, .int .i64 0, .slice none 0 0, .slice none 0 0] 25)) := ((Below.refl _ _).alloc (Nat.le_refl _) _).alloc (by simp <;> omega) _
  have hq1 := Box.new (w.alloc (.cells #[.int .i64 0, .int .i64 0, .int .i64 0, .int .i64 0, .int .i64 0, .slice none 0 0, .slice none 0 0] 25)) 25 #[.int .i64 3, .int .i64 2, .int .i64 0, .int .i64 0, .int .i64 0, .slice none 0 0, .slice none 0 0]
  have hq0 := (Box.new w 25 #[.int .i64 0, .int .i64 0, .int .i64 0, .int .i64 0, .int .i64 0, .slice none 0 0, .slice none 0 0]).alloc (.cells #[.int .i64 3, .int .i64 2, .int .i64 0, .int .i64 0, .int .i64 0, .slice none 0 0, .slice none 0 0] 25)
  have H := Lib.hid (And.intro hb1 (And.intro hq0 hq1))
  clear hb1 hq0 hq1
  go_enter Tryz.func21, Tryz.ntmps21
  go_wp2_with (first
    | (at_builtin
       refine wpList_app1 _ rfl (.tmp 7) (.tmp 8) _ rfl w.heap.size 3 i0 _ 1 8 Tryz.underlying22 hi0 hz0 hs0 hy0 rfl (by omega) (.slice none 0 0) 0 [] rfl (nil_own _ _ _ _) _ _ 1 1 [.int .i64 1] rfl rfl (rd_new' _ _ _ _ (by simp)) (by simp [Value.oneCell']) (by unfold maxLen; omega) (by omega) (by simp <;> omega) (by omega) ?_
       intro g cap w8 hO hca hcb hrow hg hwg
       have hb2 := (H.out.1.alloc (by simp <;> omega) (.cells #[.int .i64 1] 3)).grown hg (by simp <;> omega) (fun k e => by cases e)
       have hq0 := (H.out.2.1.alloc (.cells #[.int .i64 1] 3)).grown hg (fun e => by cases e)
       have hq1 := (H.out.2.2.alloc (.cells #[.int .i64 1] 3)).grown hg (fun e => by cases e)
       simp only [World.size_alloc] at hq1
       have hqg : g = w.heap.size + 3 := by
         rcases hwg with h | h
         · cases h
         · simpa using h
       have hc0 := hq0.cell
       have hc1 := hq1.cell
       have hf0 := hq0.free
       have hf1 := hq1.free
       have hsz := hq1.lt
       have H2 := Lib.hid (And.intro hb2 (And.intro hO (And.intro hq0 hq1)))
       clear hb2 hO hq0 hq1 hg hrow hwg H))
  refine bodyPost_ret (v := manV 3 2 0 0 0 (.slice (some ⟨g, 0, none⟩) 1 cap) (.slice none 0 0)) ?_ rfl ?_
  · simp [results, Tryz.results21, go_sem, hc0]
  refine ⟨some ⟨g, 0, none⟩, cap, rfl, ?_, ?_⟩
  · refine (show Rd _ _ _ ([] ++ [Value.int .i64 1]) from Own.rd_all (B := w.heap.size) (t := 3) ?_)
    repeat (first | with_reducible exact H2.out.2.1 | refine Own.far ?_ (show g ≠ _ by simp only; omega) _)
  · repeat (first | with_reducible exact H2.out.1 | refine Below.setCell ?_ (by simp) _)

set_option maxRecDepth 100000 in
set_option maxHeartbeats 4000000 in
theorem works_any (w : World) : Calls Tryz.prog 6 #[] w fun e w' => e = .returned (.bool true) ∧ Below w.heap.size w w' := by
  have hm : manR 3 2 0 0 0 [1] [] = true := by decide
  have HE := Lib.hid (show manE 3 2 0 0 0 [1] [] = 0 by rw [manE, hm]; rfl)
  generalize hse : encM 3 2 0 0 0 [1] [] = enc
  have hel := encM_small2 3 2 0 0 0 [1] []
  rw [hse] at hel
  generalize hL : enc.length = L at hel
  have HM := Lib.hid (And.intro hm hse)
  have HL := Lib.hid hL
  clear hm hse hL
  go_enter Tryz.func6, Tryz.ntmps6
  go_wp2_with (first
    | (go_at_call 21
       refine (small_any _).mono ?_
       rintro e w1 ⟨b1, c1, rfl, hr1, hb1⟩
       have H1 := Lib.hid (And.intro hr1 hb1)
       clear hr1 hb1)
    | (go_at_call 4
       refine (octEncode 3 2 0 0 0 b1 none c1 0 [1] [] _ H1.out.1 (Rd.nil _ _ _) (by simp [Lit.wf, IntKind.min, IntKind.max, IntKind.signed, IntKind.bits])).mono ?_
       rintro e w2 ⟨b, cap, rfl, hown, hb2⟩
       rw [HE.out, HM.out.2, HL.out]
       rw [HM.out.2, HL.out] at hown
       have hcp : L ≤ cap := by
         rcases hown.2 with ⟨h, _⟩ | ⟨g', c', cu, h, _, _, h2, _⟩
         · cases h; omega
         · cases h; omega
       have H2 := Lib.hid (And.intro (ownsRow_rd hown) (H1.out.2.trans (hb2.mono H1.out.2.size)))
       clear hown hb2 H1)
    | (go_at_call 9
       refine (manDecode b L cap enc _ H2.out.1 HL.out hcp (by omega)).mono ?_
       rintro e w3 ⟨hd, hb3⟩
       obtain ⟨d1, k1, d2, k2, rfl, hr1, hr2⟩ := dman_of HM.out.1 HM.out.2 hd
       have H3 := Lib.hid (And.intro hr1 (And.intro hr2 (And.intro (H2.out.2.trans (hb3.mono H2.out.2.size)) (Box.new w3 25 #[.int .i64 3, .int .i64 2, .int .i64 0, .int .i64 0, .int .i64 0, .slice d1 1 k1, .slice d2 0 k2]))))
       clear hr1 hr2 hd hb3 H2))
  have hcx := H3.out.2.2.2.cell
  have hlx := H3.out.2.2.2.lt
  have hfx := H3.out.2.2.2.free
  go_region_with (first
    | (go_at_call 21
       refine (small_any _).mono ?_
       rintro e w5 ⟨b5, c5, rfl, hr5, hb5⟩
       have hb5' : Below (w3.alloc (.cells #[.int .i64 3, .int .i64 2, .int .i64 0, .int .i64 0, .int .i64 0, .slice d1 1 k1, .slice d2 0 k2] 25)).heap.size (w3.alloc (.cells #[.int .i64 3, .int .i64 2, .int .i64 0, .int .i64 0, .int .i64 0, .slice d1 1 k1, .slice d2 0 k2] 25)) w5 := (below_drew1 _).trans hb5
       have hX := H3.out.2.2.2.below hb5' (by simp)
       have hcx5 := hX.cell
       have hlx5 := hX.lt
       have hfx5 := hX.free
       have hb35 := (Below.al' w3 (.cells #[.int .i64 3, .int .i64 2, .int .i64 0, .int .i64 0, .int .i64 0, .slice d1 1 k1, .slice d2 0 k2] 25)).trans (hb5'.mono (by simp))
       have H5 := Lib.hid (And.intro hr5 (And.intro hb35 ((H3.out.1.below hb35).mono hb35.size)))
       clear hr5 hb5 hb5' hX hb35)
    | (go_at_call 11
       refine (sameMan_eq 3 2 0 0 0 d1 b5 d2 none k1 c5 k2 0 [1] [] _ H5.out.2.2 H5.out.1 (Rd.nil _ _ _) (Rd.nil _ _ _) (by unfold maxLen; simp) (by unfold maxLen; simp)).mono ?_
       rintro e w6 ⟨rfl, hb6⟩
       have H6 := Lib.hid ((H3.out.2.2.1.trans (H5.out.2.1.mono H3.out.2.2.1.size)).trans (hb6.mono (by have := H3.out.2.2.1.size; have := H5.out.2.1.size; omega)))
       clear hb6))
  all_goals
    go_wp2
    go_ret
    exact ⟨rfl, H6.out⟩

/-! The plain part: what Decode may answer of damaged bytes. -/
theorem encM_yes {id ns nx mk cl : Int} {segs : List Int} {prods : List P3} (hr : manR id ns nx mk cl segs prods = true) : encM id ns nx mk cl segs prods = wrapB 179 (bodyM id ns nx mk cl segs prods) ∧ (bodyM id ns nx mk cl segs prods).length ≤ 2630 :=
  ⟨by rw [encM, if_pos hr], bodyM_len hr⟩
theorem dam_cut {id ns nx mk cl : Int} {segs : List Int} {prods : List P3} (hr : manR id ns nx mk cl segs prods = true) {enc : List UInt8} (he : encM id ns nx mk cl segs prods = enc) {k : Nat} (hk : k < enc.length) :
    ∀ id ns nx mk cl segs prods, manR id ns nx mk cl segs prods = true → encM id ns nx mk cl segs prods ≠ enc.take k := by
  intro id' ns' nx' mk' cl' segs' prods' hr' h
  obtain ⟨a1, a2⟩ := encM_yes hr
  obtain ⟨b1, b2⟩ := encM_yes hr'
  subst he
  rw [b1, a1] at h
  rw [a1] at hk
  exact wrapB_cut (by omega) (by omega) hk h
theorem dam_more {id ns nx mk cl : Int} {segs : List Int} {prods : List P3} (hr : manR id ns nx mk cl segs prods = true) {enc : List UInt8} (he : encM id ns nx mk cl segs prods = enc) {ms : List UInt8} (hk : 0 < ms.length) :
    ∀ id ns nx mk cl segs prods, manR id ns nx mk cl segs prods = true → encM id ns nx mk cl segs prods ≠ enc ++ ms := by
  intro id' ns' nx' mk' cl' segs' prods' hr' h
  obtain ⟨a1, a2⟩ := encM_yes hr
  obtain ⟨b1, b2⟩ := encM_yes hr'
  subst he
  rw [b1, a1] at h
  exact wrapB_more (by omega) (by omega) hk h
theorem dam_burst {id ns nx mk cl : Int} {segs : List Int} {prods : List P3} (hr : manR id ns nx mk cl segs prods = true) {enc : List UInt8} (he : encM id ns nx mk cl segs prods = enc) {k : Nat} {o : List UInt8} (h4 : o.length ≤ 4)
    (hk : k + o.length ≤ enc.length) (hpl : 9 ≤ k ∨ k + o.length ≤ 9) (hne : enc ≠ splice enc k o) :
    ∀ id ns nx mk cl segs prods, manR id ns nx mk cl segs prods = true → encM id ns nx mk cl segs prods ≠ splice enc k o := by
  intro id' ns' nx' mk' cl' segs' prods' hr' h
  obtain ⟨a1, a2⟩ := encM_yes hr
  obtain ⟨b1, b2⟩ := encM_yes hr'
  subst he
  rw [a1] at hk
  have h2 := h
  rw [b1, a1] at h2
  have := wrapB_burst (by omega) h4 hk hpl h2
  rw [← b1, ← a1] at this
  exact hne (this.symm.trans h)
theorem splice_set {l o : List UInt8} {k i : Nat} (hi : i < o.length) (hk : k + o.length ≤ l.length) : (splice l k (o.take i)).set (k + i) o[i] = splice l k (o.take (i + 1)) := by
  have h1 : (o.take i).length = i := by simp; omega
  have h2 : (o.take (i + 1)).length = i + 1 := by simp; omega
  unfold splice
  have h3 : o.take (i + 1) = o.take i ++ [o[i]] := by rw [List.take_add_one, List.getElem?_eq_getElem hi]; rfl
  rw [h1, h2, List.set_append_right _ _ (by simp; omega)]
  have e : k + i - (l.take k ++ o.take i).length = 0 := by simp; omega
  rw [e, List.drop_eq_getElem_cons (show k + i < l.length by omega), List.set_cons_zero, h3]
  simp only [List.append_assoc, List.cons_append, List.nil_append, Nat.add_assoc]
theorem splice_nil (l : List UInt8) (k : Nat) : splice l k [] = l := by simp [splice]

/-- What the law knows behind Encode: the bytes. -/
structure KD (w : World) (g : Nat) (enc : List UInt8) (W : World) : Prop where
  below : Below w.heap.size w W
  own : Own W w.heap.size g 5 (bv enc)
section
variable {w W W' : World} {g : Nat} {enc : List UInt8}
theorem KD.next (d : KD w g enc W) (hb : Below W.heap.size W W') : KD w g enc W' := ⟨d.below.trans (hb.mono d.below.size), d.own.below hb d.own.lt⟩
theorem KD.rd (d : KD w g enc W) : Rd W W.heap.size (some ⟨g, 0, none⟩) (bv enc) := d.own.rd d.own.lt fun _ _ h => h
theorem KD.rdk (d : KD w g enc W) (k : Nat) : Rd W W.heap.size (some ⟨g, 0, none⟩) (bv (enc.take k)) := d.own.rd d.own.lt fun j u h => by
  simp only [bv, List.getElem?_map, List.getElem?_take] at h ⊢
  split at h
  · exact h
  · cases h
end
end Go.Proofs.YtdeaefbjddodjaaGreatDoor
