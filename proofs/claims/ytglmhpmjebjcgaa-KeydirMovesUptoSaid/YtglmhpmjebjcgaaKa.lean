import Derived.WalkKit
import Derived.WalkSpells
import Derived.WalkLawsBesides
import Derived.Deep.QuietTactic
import Derived.BigQuiet
import Derived.Lib.Hide
import Derived.Maps.OwnOps
import Derived.Maps.OwnSet
import Derived.Maps.Views
import Derived.Maps.Keyed
import Derived.Maps.AppendAt
import Derived.Maps.RangeWalk
import Derived.RegionTactic
import Derived.BigRegion
import Derived.Test.YtglmhpmjebjcgaaRows
import Derived.StillTailTactics
import Derived.Deep.RegionHeld3
import Derived.IntWalk
/-
  Words that all texts of this seat share: a slice that reads as a list of cells; a map from int to int as a function. No program in sight.
-/
namespace Go.Proofs.Ytglmhpmjebjcgaa
open Go.RowKit Go.Maps

theorem add_block (a : Addr) (n : Nat) : (a.add n).block = a.block := by unfold Addr.add; split <;> rfl
theorem add_add' (a : Addr) (i j : Nat) : (a.add i).add j = a.add (i + j) := by
  unfold Addr.add
  by_cases hi : i = 0 <;> by_cases hj : j = 0 <;> simp [hi, hj, Nat.add_assoc]

/-- The cells xs lie behind the address A, all below block B. -/
def Rd (w : World) (B : Nat) (A : Option Addr) (xs : List Value) : Prop :=
  ∀ (j : Nat) (u : Value), xs[j]? = some u → ∃ ad : Addr, A = some ad ∧ ad.block < B ∧ w.cell? (ad.add j) = some u

section
variable {w w' : World} {B B' : Nat} {A : Option Addr} {xs : List Value}
theorem Rd.nil (w : World) (B : Nat) (A : Option Addr) : Rd w B A [] := by intro j u h; simp at h
theorem Rd.keep (h : Rd w B A xs) (hk : ∀ p : Addr, p.block < B → w'.cell? p = w.cell? p) : Rd w' B A xs := by
  intro j u hj
  obtain ⟨ad, rfl, hb, hc⟩ := h j u hj
  exact ⟨ad, rfl, hb, (hk _ (by rw [add_block]; exact hb)).trans hc⟩
theorem Rd.below (h : Rd w B A xs) (hb : Below B w w') : Rd w' B A xs := h.keep fun _ hp => hb.cell hp
theorem Rd.mono (h : Rd w B A xs) (hB : B ≤ B') : Rd w B' A xs := by
  intro j u hj
  obtain ⟨ad, rfl, hb, hc⟩ := h j u hj
  exact ⟨ad, rfl, by omega, hc⟩
theorem Rd.some_ (h : Rd w B A xs) (hn : 0 < xs.length) : ∃ ad : Addr, A = some ad ∧ ad.block < B ∧ ∀ (j : Nat) (u : Value), xs[j]? = some u → w.cell? (ad.add j) = some u := by
  obtain ⟨ad, rfl, hb, _⟩ := h 0 _ (List.getElem?_eq_getElem hn)
  refine ⟨ad, rfl, hb, fun j u hj => ?_⟩
  obtain ⟨ad', he, _, hc⟩ := h j u hj
  cases he
  exact hc
/-- A row of ints: the k-th. -/
theorem Rd.int {k : IntKind} {l : List Int} (h : Rd w B A (l.map (Value.int k))) {i : Nat} (hi : i < l.length) :
    ∃ ad : Addr, A = some ad ∧ ad.block < B ∧ w.cell? (ad.add i) = some (.int k l[i]) := by
  obtain ⟨ad, rfl, hb, hc⟩ := h i (.int k l[i]) (by simp [hi])
  exact ⟨ad, rfl, hb, hc⟩
/-- A row of triples of ints: the k-th. -/
def tri (p : Int × Int × Int) : List Value := [.int .i64 p.1, .int .i64 p.2.1, .int .i64 p.2.2]
theorem tri_get (l : List (Int × Int × Int)) (i : Nat) (hi : i < l.length) :
    (l.flatMap tri)[i * 3]? = some (.int .i64 l[i].1) ∧ (l.flatMap tri)[i * 3 + 1]? = some (.int .i64 l[i].2.1) ∧ (l.flatMap tri)[i * 3 + 2]? = some (.int .i64 l[i].2.2) := by
  induction l generalizing i with
  | nil => simp at hi
  | cons p l ih =>
    cases i with
    | zero => simp [tri]
    | succ i =>
      have := ih i (by simpa using hi)
      have e : (i + 1) * 3 = 3 + i * 3 := by omega
      simp only [List.flatMap_cons, e, List.getElem_cons_succ]
      have hl : (tri p).length = 3 := rfl
      refine ⟨?_, ?_, ?_⟩
      · rw [List.getElem?_append_right (by omega), hl, show 3 + i * 3 - 3 = i * 3 by omega]; exact this.1
      · rw [List.getElem?_append_right (by omega), hl, show 3 + i * 3 + 1 - 3 = i * 3 + 1 by omega]; exact this.2.1
      · rw [List.getElem?_append_right (by omega), hl, show 3 + i * 3 + 2 - 3 = i * 3 + 2 by omega]; exact this.2.2
theorem tri_len (l : List (Int × Int × Int)) : (l.flatMap tri).length = l.length * 3 := by
  induction l with
  | nil => rfl
  | cons p l ih => simp only [List.flatMap_cons, List.length_append, ih, List.length_cons]; show 3 + _ = _; omega
theorem Rd.tri_ {l : List (Int × Int × Int)} (h : Rd w B A (l.flatMap tri)) {i : Nat} (hi : i < l.length) :
    ∃ ad : Addr, A = some ad ∧ ad.block < B ∧ w.cell? (ad.add (i * 3)) = some (.int .i64 l[i].1) ∧
      w.cell? ⟨(ad.add (i * 3)).block, (ad.add (i * 3)).off + 1, none⟩ = some (.int .i64 l[i].2.1) ∧ w.cell? ⟨(ad.add (i * 3)).block, (ad.add (i * 3)).off + 2, none⟩ = some (.int .i64 l[i].2.2) := by
  obtain ⟨h1, h2, h3⟩ := tri_get l i hi
  obtain ⟨ad, rfl, hb, c1⟩ := h _ _ h1
  obtain ⟨a2, e2, _, c2⟩ := h _ _ h2
  obtain ⟨a3, e3, _, c3⟩ := h _ _ h3
  cases e2; cases e3
  rw [← add_add'] at c2 c3
  exact ⟨ad, rfl, hb, c1, c2, c3⟩
end

theorem below_drewN {B : Nat} {a w : World} (h : Below B a w) (n : Nat) : Below B a (w.drewN n) := ⟨h.os, h.tape, h.output, h.size, h.block⟩
theorem ret_bool {a b : Bool} (h : a = b) : Ending.returned (.bool a) = .returned (.bool b) := by rw [h]
theorem ret_int {k : IntKind} {a b : Int} (h : a = b) : Ending.returned (.int k a) = .returned (.int k b) := by rw [h]

/-! Maps from int to int. -/
section
variable {P : Program} {K E : TypeId}
/-- Block b is a map of at most n entries that tells f of each int (0 where it has none). -/
def IMap (P : Program) (K E : TypeId) (w : World) (b n : Nat) (f : Int → Int) : Prop :=
  ∃ D : DataW Unit, w.ownsMap P K (plainElem P E) b n D ∧ IsMap D ∧ ∀ x : Int, (Lit.int .i64 x).wf = true → D.atKey (.int .i64 x) (.lit (.int .i64 0)) = .lit (.int .i64 (f x))
theorem IMap.made (w : World) : IMap P K E (w.alloc (.map #[] 0)) w.heap.size 0 fun _ => 0 :=
  ⟨.map [], World.ownsMap_made _ _ _ _, isMap_empty, fun _ _ => rfl⟩
theorem IMap.kept {w w' : World} {b n : Nat} {f : Int → Int} (h : IMap P K E w b n f) {row : Option Nat} (hg : w.grownBy w' row) (hne : some b ≠ row) : IMap P K E w' b n f :=
  let ⟨D, h1, h2, h3⟩ := h; ⟨D, h1.kept hg hne, h2, h3⟩
theorem IMap.lt {w : World} {b n : Nat} {f : Int → Int} (h : IMap P K E w b n f) : b < w.heap.size := let ⟨_, h1, _⟩ := h; h1.lt
theorem IMap.look {w : World} {b n : Nat} {f : Int → Int} (h : IMap P K E w b n f) (hk : P.underlying K = some (.int .i64)) (he : P.underlying E = some (.int .i64)) {T : TypeId} (ht : P.underlying T = some (.map K E))
    (hz : (zeroValue E).run P w = .ok (.int .i64 0) w) (x : Int) (hx : (Lit.int .i64 x).wf = true) : (Instr.lookup T (.map (some b)) (.int .i64 x) false).run P w = .ok (.int .i64 (f x)) w := by
  obtain ⟨D, h1, _, h3⟩ := h
  obtain ⟨c, hrun, hat, _⟩ := h1.lookup_int (int_keyed hk) ht he hz (keyOf_int_mk hk hx)
  have := h3 x hx
  rw [hat] at this
  injection this with this
  injection this with _ this
  rw [hrun, this]
theorem IMap.store {w : World} {b n : Nat} {f : Int → Int} (h : IMap P K E w b n f) (hk : P.underlying K = some (.int .i64)) (he : P.underlying E = some (.int .i64)) {T : TypeId} (ht : P.underlying T = some (.map K E))
    (hn : n < maxLen) (x v : Int) (hx : (Lit.int .i64 x).wf = true) (hv : (Lit.int .i64 v).wf = true) :
    ∃ w', (Instr.mapUpdate T (.map (some b)) (.int .i64 x) (.int .i64 v)).run P w = .ok () w' ∧ IMap P K E w' b (n + 1) (fun y => if y = x then v else f y) ∧ w.grownBy w' (some b) := by
  obtain ⟨D, h1, h2, h3⟩ := h
  obtain ⟨w', hrun, r1, r2⟩ := h1.update (int_keyed hk) ht hn (keyOf_int_mk hk hx) (plainElem_int he hv)
  refine ⟨w', hrun, ⟨_, r1, h2.put _ _, fun y hy => ?_⟩, r2⟩
  by_cases hyx : y = x
  · subst hyx
    show _ = DataW.lit (.int .i64 (if y = y then v else f y))
    rw [if_pos rfl]
    exact atKey_put_same h2 (by trivial) _ _
  · show _ = DataW.lit (.int .i64 (if y = x then v else f y))
    rw [if_neg hyx, atKey_put_other (by simpa using hyx)]
    exact h3 y hy
theorem wpList_mapStore (w : World) {ops : Array Oper} {rest : List Oper} {o : Oper} {a : Act} {Q : Exit → Act → World → Prop}
    (hg : o.guard = none) (m x v : Operand) (T : TypeId) (hop : o.op = Op.mapUpdate T m x v)
    (hk : P.underlying K = some (.int .i64)) (he : P.underlying E = some (.int .i64)) (ht : P.underlying T = some (.map K E)) (b n : Nat) (f : Int → Int)
    (hm : a.eval m = .map (some b)) (h : IMap P K E w b n f) (hn : n < maxLen) (key val : Int) (hx : a.eval x = .int .i64 key) (hv : a.eval v = .int .i64 val)
    (hkw : (Lit.int .i64 key).wf = true) (hvw : (Lit.int .i64 val).wf = true)
    (hK : ∀ w', IMap P K E w' b (n + 1) (fun y => if y = key then val else f y) → w.grownBy w' (some b) → wpList P ops Q rest (a.put o.dst undef) w') :
    wpList P ops Q (o :: rest) a w := by
  refine wpList_plain hg fun K' hK' => ?_
  obtain ⟨w', hrun, r1, r2⟩ := h.store hk he ht hn key val hkw hvw
  unfold Oper.wp
  simp [execOp, hop, hm, hx, hv, hrun, Result.andThen]
  exact hK' _ _ (hK w' r1 r2)
end

theorem wf_of {x : Int} (h : -9223372036854775808 ≤ x ∧ x ≤ 9223372036854775807) : (Lit.int .i64 x).wf = true := by
  simp [Lit.wf, IntKind.min, IntKind.max, IntKind.signed, IntKind.bits]; omega
end Go.Proofs.Ytglmhpmjebjcgaa
/-
  Words for memory of the call's own: a row of cells known from its head on; what a call may have changed; append of a slice that reads as a list.
-/
namespace Go.Proofs.Ytglmhpmjebjcgaa
open Go.RowKit Go.Maps

/-- Block g (from B on) is a row of type t that begins with the cells cs; none is frozen. -/
def Own (w : World) (B g : Nat) (t : TypeId) (cs : List Value) : Prop := B ≤ g ∧ ∃ rest : List Value, w.heap[g]? = some (.cells (cs ++ rest).toArray t (0, 0))
/-- Block b is just these cells. -/
def Box (w : World) (b : Nat) (t : TypeId) (cs : Array Value) : Prop := w.heap[b]? = some (.cells cs t (0, 0))
/-- Of the blocks that were there only those of S may have changed. -/
structure Chg (S : Nat → Prop) (w w' : World) : Prop where
  os : w'.os = w.os
  tape : w'.tape = w.tape
  output : w'.output = w.output
  size : w.heap.size ≤ w'.heap.size
  block : ∀ k, k < w.heap.size → ¬ S k → w'.heap[k]? = w.heap[k]?

section
variable {w w' : World} {B g b : Nat} {t : TypeId} {cs : List Value} {ar : Array Value} {S : Nat → Prop}
theorem Chg.refl (S : Nat → Prop) (w : World) : Chg S w w := ⟨rfl, rfl, rfl, Nat.le_refl _, fun _ _ _ => rfl⟩
theorem Chg.trans {a b c : World} (h : Chg S a b) (k : Chg S b c) : Chg S a c :=
  ⟨k.os.trans h.os, k.tape.trans h.tape, k.output.trans h.output, Nat.le_trans h.size k.size, fun i hi hn => (k.block i (Nat.lt_of_lt_of_le hi h.size) hn).trans (h.block i hi hn)⟩
theorem Chg.mono {S' : Nat → Prop} (h : Chg S w w') (hs : ∀ k, k < w.heap.size → S k → S' k) : Chg S' w w' := ⟨h.os, h.tape, h.output, h.size, fun k hk hn => h.block k hk fun hS => hn (hs k hk hS)⟩
theorem Chg.of_below (h : Below w.heap.size w w') (S : Nat → Prop) : Chg S w w' := ⟨h.os, h.tape, h.output, h.size, fun k hk _ => h.block k hk⟩
theorem Chg.below (h : Chg S w w') (hB : B ≤ w.heap.size) (hs : ∀ k, S k → B ≤ k) : Below B w w' := ⟨h.os, h.tape, h.output, h.size, fun k hk => h.block k (by omega) fun hS => by have := hs k hS; omega⟩
theorem Chg.drewN {a : World} (h : Chg S a w) (n : Nat) : Chg S a (w.drewN n) := ⟨h.os, h.tape, h.output, h.size, h.block⟩
theorem Chg.drew {a : World} (h : Chg S a w) : Chg S a w.drew := ⟨h.os, h.tape, h.output, h.size, h.block⟩
theorem Chg.alloc {a : World} (h : Chg S a w) (o : Obj) : Chg S a (w.alloc o) := h.trans (Chg.of_below ((Below.refl _ _).alloc (Nat.le_refl _) o) S)
theorem Chg.setCell {a : World} (h : Chg S a w) {p : Addr} (hp : S p.block ∨ a.heap.size ≤ p.block) (u : Value) : Chg S a (w.setCell p u) :=
  ⟨h.os, h.tape, h.output, by simpa [World.setCell] using h.size, fun k hk hn => (Below.heap_setCell w p u k (by
    rintro rfl
    rcases hp with hp | hp
    · exact hn hp
    · omega)).trans (h.block k hk hn)⟩

theorem Box.new (w : World) (t : TypeId) (ar : Array Value) : Box (w.alloc (.cells ar t)) w.heap.size t ar := heap_alloc_new w _
theorem Box.lt (h : Box w b t ar) : b < w.heap.size := by
  rcases Nat.lt_or_ge b w.heap.size with hlt | hge
  · exact hlt
  · unfold Box at h; rw [Array.getElem?_eq_none hge] at h; cases h
theorem Box.cell (h : Box w b t ar) (i : Nat) : w.cell? ⟨b, i, none⟩ = ar[i]? := cell_of_row w b i ar t (0, 0) h
theorem Box.free (h : Box w b t ar) (i : Nat) : w.frozen? ⟨b, i, none⟩ = false := by unfold Box at h; simp [World.frozen?, h]
theorem Box.chg (h : Box w b t ar) (hc : Chg S w w') (hn : ¬ S b) : Box w' b t ar := (hc.block b h.lt hn).trans h
theorem Box.below (h : Box w b t ar) (hb : Below B w w') (hlt : b < B) : Box w' b t ar := (hb.block b hlt).trans h
theorem Box.alloc (h : Box w b t ar) (o : Obj) : Box (w.alloc o) b t ar := (Below.heap_alloc w o b h.lt).trans h
theorem Box.grown {row : Option Nat} (h : Box w b t ar) (hg : w.grownBy w' row) (hn : some b ≠ row) : Box w' b t ar := (hg.block b h.lt hn).trans h
theorem Box.drewN (h : Box w b t ar) (n : Nat) : Box (w.drewN n) b t ar := h
theorem Box.far (h : Box w b t ar) {p : Addr} (hp : b ≠ p.block) (u : Value) : Box (w.setCell p u) b t ar := (Below.heap_setCell w p u b hp).trans h
theorem Box.set_ (h : Box w b t ar) (i : Nat) (u : Value) : Box (w.setCell ⟨b, i, none⟩ u) b t (ar.setIfInBounds i u) := by
  unfold Box at h ⊢
  simp [World.setCell, Array.getElem?_modify, h]

theorem Own.lt (h : Own w B g t cs) : g < w.heap.size := by
  obtain ⟨_, rest, h⟩ := h
  rcases Nat.lt_or_ge g w.heap.size with hlt | hge
  · exact hlt
  · rw [Array.getElem?_eq_none hge] at h; cases h
theorem Own.le {B' : Nat} (h : Own w B g t cs) (hb : B' ≤ B) : Own w B' g t cs := ⟨Nat.le_trans hb h.1, h.2⟩
theorem Own.cell (h : Own w B g t cs) {i : Nat} (hi : i < cs.length) : w.cell? ⟨g, i, none⟩ = some cs[i] := by
  obtain ⟨_, rest, h⟩ := h
  rw [cell_of_row w g i _ t (0, 0) h]
  simp [List.getElem?_append_left hi]
theorem Own.free (h : Own w B g t cs) (i : Nat) : w.frozen? ⟨g, i, none⟩ = false := by
  obtain ⟨_, rest, h⟩ := h
  simp [World.frozen?, h]
theorem Own.chg (h : Own w B g t cs) (hc : Chg S w w') (hn : ¬ S g) : Own w' B g t cs :=
  have hl := h.lt
  let ⟨hB, rest, h⟩ := h; ⟨hB, rest, (hc.block g hl hn).trans h⟩
theorem Own.below {B' : Nat} (h : Own w B g t cs) (hb : Below B' w w') (hlt : g < B') : Own w' B g t cs :=
  let ⟨hB, rest, h⟩ := h; ⟨hB, rest, (hb.block g hlt).trans h⟩
theorem Own.alloc (h : Own w B g t cs) (o : Obj) : Own (w.alloc o) B g t cs :=
  have hl := h.lt
  let ⟨hB, rest, h⟩ := h; ⟨hB, rest, (Below.heap_alloc w o g hl).trans h⟩
theorem Own.drewN (h : Own w B g t cs) (n : Nat) : Own (w.drewN n) B g t cs := h
theorem Own.drew (h : Own w B g t cs) : Own w.drew B g t cs := h
theorem Box.drew (h : Box w b t ar) : Box w.drew b t ar := h
theorem Own.grown {row : Option Nat} (h : Own w B g t cs) (hg : w.grownBy w' row) (hn : some g ≠ row) : Own w' B g t cs :=
  have hl := h.lt
  let ⟨hB, rest, h⟩ := h; ⟨hB, rest, (hg.block g hl hn).trans h⟩
theorem Own.far (h : Own w B g t cs) {p : Addr} (hp : g ≠ p.block) (u : Value) : Own (w.setCell p u) B g t cs :=
  let ⟨hB, rest, h⟩ := h; ⟨hB, rest, (Below.heap_setCell w p u g hp).trans h⟩
theorem Own.set_ (h : Own w B g t cs) {i : Nat} (hi : i < cs.length) (u : Value) : Own (w.setCell ⟨g, i, none⟩ u) B g t (cs.set i u) := by
  obtain ⟨hB, rest, h⟩ := h
  refine ⟨hB, rest, ?_⟩
  simp [World.setCell, Array.getElem?_modify, h, List.set_append_left _ _ hi]
theorem Own.rd (h : Own w B g t cs) {B' : Nat} (hg : g < B') {xs : List Value} (hx : ∀ (j : Nat) (u : Value), xs[j]? = some u → cs[j]? = some u) : Rd w B' (some ⟨g, 0, none⟩) xs := by
  intro j u hj
  have := hx j u hj
  refine ⟨_, rfl, hg, ?_⟩
  have hi : j < cs.length := (List.getElem?_eq_some_iff.1 this).1
  have e : (⟨g, 0, none⟩ : Addr).add j = ⟨g, j, none⟩ := by unfold Addr.add; split <;> simp_all
  rw [e, h.cell hi, ← this, List.getElem?_eq_getElem hi]
theorem Own.of_row {e : TypeId} {size n : Nat} {v : Value} {xs : List Value} (h : w.ownsRow B e size v n xs) (hn : 0 < n) :
    ∃ g cap, v = .slice (some ⟨g, 0, none⟩) n cap ∧ n ≤ cap ∧ cap ≤ maxLen ∧ Own w B g e xs := by
  obtain ⟨h1, h2⟩ := h
  rcases h2 with ⟨_, h2⟩ | ⟨g, cap, cur, hv, hg, hh, hnc, hcm, hsz, htk⟩
  · omega
  · refine ⟨g, cap, hv, hnc, hcm, hg, cur.toList.drop (n * size), ?_⟩
    rw [← htk, List.take_append_drop]
    simpa using hh
end

section
variable {P : Program} (w : World)
/-- append of a slice that reads as 'news' (nil, empty or not) onto a row of the call's own. -/
theorem run_app (base : Nat) (t ty e : TypeId) (i : TypeInfo) (z : Value) (size bytes : Nat) (ht : P.underlying t = some (.slice e)) (hi : P.info? e = some i) (hz : i.zero = some z)
    (hsize : i.size = size) (hby : i.bytes = bytes) (hzs : z.cells.size = size) (hsz : 0 < size) (v : Value) (n : Nat) (xs : List Value) (hown : w.ownsRow base e size v n xs)
    (B : Nat) (A : Option Addr) (m c : Nat) (news : List Value) (hl : news.length = m * size) (hr : Rd w B A news) (h1 : ∀ u ∈ news, u.oneCell' = true)
    (h63 : n + m ≤ maxLen) (hbytes : (n + m) * bytes ≤ 140737488355328) (hbase : base ≤ w.heap.size) :
    ∃ v' w', (Builtin.append_ #[t, t] ty #[v, .slice A m c]).run P w = .ok v' w' ∧ w'.ownsRow base e size v' (n + m) (xs ++ news) ∧ w.grownBy w' v.ownBlock ∧
      (v'.ownBlock = v.ownBlock ∨ v'.ownBlock = some w.heap.size) := by
  cases A with
  | some ad =>
    obtain ⟨v', w', r1, r2, r3, _, r5⟩ := run_append_own_at (P := P) w base t ty e i z size bytes ht hi hz hsize hby hzs hsz v n xs hown ad m c news hl
      (fun j u hu => by obtain ⟨_, h, _, hc⟩ := hr j u hu; cases h; exact hc) h1 h63 hbytes hbase
    exact ⟨v', w', r1, r2, r3, r5⟩
  | none =>
    have hn : news = [] := by
      cases news with
      | nil => rfl
      | cons u r => obtain ⟨_, h, _⟩ := hr 0 u rfl; cases h
    subst hn
    have hm : m = 0 := by
      rcases Nat.eq_zero_or_pos m with h | h
      · exact h
      · have := Nat.mul_pos h hsz; simp at hl; omega
    subst hm
    refine ⟨v, w, ?_, by simpa using hown, World.grownBy.refl w _, .inl rfl⟩
    rcases hown.2 with ⟨rfl, rfl⟩ | ⟨g, cap, cur, rfl, _, _, hnc, _⟩
    · simp [Builtin.append_, run_underlying ht, sizeOf, typeInfo, hi, Builtin.lenOf, Builtin.firstCells]
    · simp [Builtin.append_, run_underlying ht, sizeOf, typeInfo, hi, Builtin.lenOf, Builtin.firstCells, hnc, storeCells]
theorem wpList_app {ops : Array Oper} {rest : List Oper} {o : Oper} {a : Act} {Q : Exit → Act → World → Prop} (hgd : o.guard = none) (s x : Operand) (t : TypeId)
    (ho : o.op = .call { callee := .builtin .append, args := #[s, x], argTypes := #[t, t] })
    (base : Nat) (e : TypeId) (i : TypeInfo) (z : Value) (size bytes : Nat) (ht : P.underlying t = some (.slice e)) (hi : P.info? e = some i) (hz : i.zero = some z)
    (hsize : i.size = size) (hby : i.bytes = bytes) (hzs : z.cells.size = size) (hsz : 0 < size)
    (v : Value) (n : Nat) (xs : List Value) (hs : a.eval s = v) (hown : w.ownsRow base e size v n xs)
    (B : Nat) (A : Option Addr) (m c : Nat) (news : List Value) (hx : a.eval x = .slice A m c) (hl : news.length = m * size) (hr : Rd w B A news) (h1 : ∀ u ∈ news, u.oneCell' = true)
    (h63 : n + m ≤ maxLen) (hbytes : (n + m) * bytes ≤ 140737488355328) (hbase : base ≤ w.heap.size)
    (h : ∀ v' w', w'.ownsRow base e size v' (n + m) (xs ++ news) → w.grownBy w' v.ownBlock → (v'.ownBlock = v.ownBlock ∨ v'.ownBlock = some w.heap.size) → wpList P ops Q rest (a.put o.dst v') w') :
    wpList P ops Q (o :: rest) a w :=
  wpList_plain hgd fun K hK => by
    obtain ⟨v', w', hrun, h2, h3, h4⟩ := run_app (P := P) w base t o.type e i z size bytes ht hi hz hsize hby hzs hsz v n xs hown B A m c news hl hr h1 h63 hbytes hbase
    unfold Oper.wp execOp
    simp only [ho, resolve, invoke, builtin, Sem.run_bind, Sem.run_pure, Result.andThen_ok, List.map_toArray, List.map_cons, List.map_nil, hs, hx, hrun]
    exact hK _ _ (h v' w' h2 h3 h4)
/-- .. where something is there in the end: the slice is written out. -/
theorem wpList_app1 {ops : Array Oper} {rest : List Oper} {o : Oper} {a : Act} {Q : Exit → Act → World → Prop} (hgd : o.guard = none) (s x : Operand) (t : TypeId)
    (ho : o.op = .call { callee := .builtin .append, args := #[s, x], argTypes := #[t, t] })
    (base : Nat) (e : TypeId) (i : TypeInfo) (z : Value) (size bytes : Nat) (ht : P.underlying t = some (.slice e)) (hi : P.info? e = some i) (hz : i.zero = some z)
    (hsize : i.size = size) (hby : i.bytes = bytes) (hzs : z.cells.size = size) (hsz : 0 < size)
    (v : Value) (n : Nat) (xs : List Value) (hs : a.eval s = v) (hown : w.ownsRow base e size v n xs)
    (B : Nat) (A : Option Addr) (m c : Nat) (news : List Value) (hx : a.eval x = .slice A m c) (hl : news.length = m * size) (hr : Rd w B A news) (h1 : ∀ u ∈ news, u.oneCell' = true)
    (h63 : n + m ≤ maxLen) (hbytes : (n + m) * bytes ≤ 140737488355328) (hbase : base ≤ w.heap.size) (hpos : 0 < n + m)
    (h : ∀ g cap w', Own w' base g e (xs ++ news) → n + m ≤ cap → cap ≤ maxLen → w'.ownsRow base e size (.slice (some ⟨g, 0, none⟩) (n + m) cap) (n + m) (xs ++ news) → w.grownBy w' v.ownBlock → (some g = v.ownBlock ∨ g = w.heap.size) →
      wpList P ops Q rest (a.put o.dst (.slice (some ⟨g, 0, none⟩) (n + m) cap)) w') :
    wpList P ops Q (o :: rest) a w :=
  wpList_app w hgd s x t ho base e i z size bytes ht hi hz hsize hby hzs hsz v n xs hs hown B A m c news hx hl hr h1 h63 hbytes hbase fun v' w' r1 r2 r3 => by
    obtain ⟨g, cap, hv, h1, h2, h3⟩ := Own.of_row r1 hpos
    subst hv
    refine h g cap w' h3 h1 h2 r1 r2 ?_
    rcases r3 with r3 | r3
    · left; exact r3
    · right; simpa [Value.ownBlock] using r3
end
/-- A new row reads as what it was made of. -/
theorem rd_new (w : World) (ar : Array Value) (t : TypeId) : Rd (w.alloc (.cells ar t)) (w.heap.size + 1) (some ⟨w.heap.size, 0, none⟩) ar.toList := by
  intro j u hj
  refine ⟨_, rfl, by simp, ?_⟩
  have e : (⟨w.heap.size, 0, none⟩ : Addr).add j = ⟨w.heap.size, j, none⟩ := by unfold Addr.add; split <;> simp_all
  rw [e, World.cell?_alloc_new]
  simpa using hj
theorem own_empty (w : World) (B : Nat) (t : TypeId) (size : Nat) (hB : B ≤ w.heap.size) : (w.alloc (.cells #[] t)).ownsRow B t size (.slice (some ⟨w.heap.size, 0, none⟩) 0 0) 0 [] :=
  ⟨by simp, .inr ⟨w.heap.size, 0, #[], rfl, hB, heap_alloc_new w _, Nat.le_refl _, Nat.zero_le _, by simp, by simp⟩⟩
theorem one_int {k : IntKind} (l : List Int) : ∀ u ∈ l.map (Value.int k), u.oneCell' = true := by
  intro u hu; obtain ⟨x, _, rfl⟩ := List.mem_map.1 hu; rfl
theorem one_tri (l : List (Int × Int × Int)) : ∀ u ∈ l.flatMap tri, u.oneCell' = true := by
  intro u hu
  obtain ⟨p, _, hp⟩ := List.mem_flatMap.1 hu
  simp [tri] at hp
  rcases hp with rfl | rfl | rfl <;> rfl
end Go.Proofs.Ytglmhpmjebjcgaa
namespace Go.Proofs.Ytglmhpmjebjcgaa
open Go.RowKit Go.Maps

/-- The order of texts, byte by byte: below 0, 0, above 0. -/
def cmpB : List UInt8 → List UInt8 → Int
  | [], [] => 0
  | [], _ :: _ => -1
  | _ :: _, [] => 1
  | x :: a, y :: b => if x.toNat < y.toNat then -1 else if y.toNat < x.toNat then 1 else cmpB a b
theorem cmpB_range : ∀ a b : List UInt8, cmpB a b = -1 ∨ cmpB a b = 0 ∨ cmpB a b = 1
  | [], [] => by simp [cmpB]
  | [], _ :: _ => by simp [cmpB]
  | _ :: _, [] => by simp [cmpB]
  | x :: a, y :: b => by
    simp only [cmpB]
    split
    · simp
    · split
      · simp
      · exact cmpB_range a b
theorem cmpB_self : ∀ a : List UInt8, cmpB a a = 0
  | [] => rfl
  | x :: a => by simp [cmpB, cmpB_self a]
theorem cmpB_eq : ∀ {a b : List UInt8}, cmpB a b = 0 → a = b
  | [], [], _ => rfl
  | [], _ :: _, h => by simp [cmpB] at h
  | _ :: _, [], h => by simp [cmpB] at h
  | x :: a, y :: b, h => by
    simp only [cmpB] at h
    split at h
    · simp at h
    · split at h
      · simp at h
      · have : x = y := UInt8.toNat_inj.1 (by omega)
        rw [this, cmpB_eq h]
theorem cmpB_less : ∀ a b : List UInt8, cmpB a b = -1 ↔ Op.bytesLess a b = true
  | [], [] => by simp [cmpB, Op.bytesLess]
  | [], _ :: _ => by simp [cmpB, Op.bytesLess]
  | _ :: _, [] => by simp [cmpB, Op.bytesLess]
  | x :: a, y :: b => by
    simp only [cmpB, Op.bytesLess, Bool.or_eq_true, Bool.and_eq_true, decide_eq_true_eq, beq_iff_eq, UInt8.lt_iff_toNat_lt]
    by_cases h1 : x.toNat < y.toNat
    · simp [h1]
    · by_cases h2 : y.toNat < x.toNat
      · have : x ≠ y := by rintro rfl; omega
        simp [h1, h2, this]
      · have : x = y := UInt8.toNat_inj.1 (by omega)
        subst this
        simp [h1, cmpB_less a b]
theorem cmpB_swap : ∀ a b : List UInt8, cmpB b a = - cmpB a b
  | [], [] => rfl
  | [], _ :: _ => rfl
  | _ :: _, [] => rfl
  | x :: a, y :: b => by
    simp only [cmpB]
    by_cases h1 : x.toNat < y.toNat
    · rw [if_neg (by omega), if_pos h1, if_pos h1]; rfl
    · by_cases h2 : y.toNat < x.toNat
      · rw [if_pos h2, if_neg h1, if_pos h2]
      · rw [if_neg h2, if_neg h1, if_neg h1, if_neg h2]; exact cmpB_swap a b
theorem cmpB_lt {a b : List UInt8} {k : Nat} (ha : k < a.length) (hb : k < b.length) (h : a[k].toNat < b[k].toNat) : cmpB (a.drop k) (b.drop k) = -1 := by
  rw [List.drop_eq_getElem_cons ha, List.drop_eq_getElem_cons hb, cmpB, if_pos h]
theorem cmpB_gt {a b : List UInt8} {k : Nat} (ha : k < a.length) (hb : k < b.length) (h : b[k].toNat < a[k].toNat) : cmpB (a.drop k) (b.drop k) = 1 := by
  rw [List.drop_eq_getElem_cons ha, List.drop_eq_getElem_cons hb, cmpB, if_neg (by omega), if_pos h]
theorem cmpB_next {a b : List UInt8} {k : Nat} (ha : k < a.length) (hb : k < b.length) (h : a[k].toNat = b[k].toNat) : cmpB (a.drop k) (b.drop k) = cmpB (a.drop (k + 1)) (b.drop (k + 1)) := by
  rw [List.drop_eq_getElem_cons ha, List.drop_eq_getElem_cons hb, cmpB, if_neg (by omega), if_neg (by omega)]
theorem cmpB_end {a b : List UInt8} {k : Nat} (h : min a.length b.length ≤ k) (hk : k ≤ a.length ∧ k ≤ b.length) : cmpB (a.drop k) (b.drop k) = min (max ((a.length : Int) - b.length) (-1)) 1 := by
  rcases Nat.lt_trichotomy a.length b.length with hl | hl | hl
  · have h1 : a.drop k = [] := List.drop_of_length_le (by omega)
    rw [h1, List.drop_eq_getElem_cons (by omega : k < b.length), cmpB]; omega
  · have h1 : a.drop k = [] := List.drop_of_length_le (by omega)
    have h2 : b.drop k = [] := List.drop_of_length_le (by omega)
    rw [h1, h2, cmpB]; omega
  · have h2 : b.drop k = [] := List.drop_of_length_le (by omega)
    rw [h2, List.drop_eq_getElem_cons (by omega : k < a.length), cmpB]; omega

set_option maxRecDepth 100000 in
set_option maxHeartbeats 1000000 in
theorem compare_any (s t : ByteArray) (w : World) (hs : s.size ≤ maxLen) (ht : t.size ≤ maxLen) :
    Calls Try.prog 46 #[.string s, .string t] w fun e w' => e = .returned (.int .i64 (cmpB s.data.toList t.data.toList)) ∧ ∃ n, w' = w.drewN n := by
  unfold maxLen at hs ht
  rcases Nat.lt_or_ge t.size s.size with hts | hts
  · go_enter Try.func46, Try.ntmps46
    go_wp2
    go_loopw [11] (fun i wr => ∃ (k n : Nat), k ≤ s.size ∧ k ≤ t.size ∧ i = .int .i64 k ∧ wr = w.drewN n ∧ cmpB s.data.toList t.data.toList = cmpB (s.data.toList.drop k) (t.data.toList.drop k)) (fun i _ => s.size - (intOf i).toNat)
    case atStart => exact ⟨0, 0, Nat.zero_le _, Nat.zero_le _, rfl, rfl, rfl⟩
    case round =>
      obtain ⟨k, n, hks, hkt, rfl, rfl, hc⟩ := hrel
      have Hc := Lib.hid hc
      clear hc
      by_cases hlt : k < t.size
      · have hls : k < s.size := by omega
        have hlt' : k < t.size := by omega
        have H1 := Lib.hid (cmpB_lt (a := s.data.toList) (b := t.data.toList) (k := k) (by simpa using hls) (by simpa using hlt'))
        have H2 := Lib.hid (cmpB_gt (a := s.data.toList) (b := t.data.toList) (k := k) (by simpa using hls) (by simpa using hlt'))
        have H3 := Lib.hid (cmpB_next (a := s.data.toList) (b := t.data.toList) (k := k) (by simpa using hls) (by simpa using hlt'))
        have hk0 : (0 : Int) ≤ k := by omega
        have hk1 : (k : Int) < s.size := by omega
        have hk2 : (k : Int) < t.size := by omega
        by_cases ha : s[k].toNat < t[k].toNat
        · have ha' : decide ((s[k].toNat : Int) < (t[k].toNat : Int)) = true := decide_eq_true (by omega)
          go_wp2
          go_quiet (fail)
          go_wp2
          go_ret
          exact ⟨ret_int (by rw [Hc.out, H1.out ha]), _, by simp only [World.drewN_drewN]; rfl⟩
        · by_cases hb : t[k].toNat < s[k].toNat
          · have ha' : decide ((s[k].toNat : Int) < (t[k].toNat : Int)) = false := decide_eq_false (by omega)
            have hb' : decide ((t[k].toNat : Int) < (s[k].toNat : Int)) = true := decide_eq_true (by omega)
            go_wp2
            go_quiet (fail)
            go_wp2
            go_quiet (fail)
            go_wp2
            go_ret
            exact ⟨ret_int (by rw [Hc.out, H2.out hb]), _, by simp only [World.drewN_drewN]; rfl⟩
          · have ha' : decide ((s[k].toNat : Int) < (t[k].toNat : Int)) = false := decide_eq_false (by omega)
            have hb' : decide ((t[k].toNat : Int) < (s[k].toNat : Int)) = false := decide_eq_false (by omega)
            go_wp2
            go_quiet (fail)
            go_wp2
            go_quiet (fail)
            go_wp2
            go_roundw
            case rel => exact ⟨k + 1, _, by omega, by omega, by go_num, rfl, by rw [Hc.out, H3.out (show s[k].toNat = t[k].toNat by omega)]⟩
            case measure => simp [intOf]; omega
      · have He := Lib.hid (cmpB_end (a := s.data.toList) (b := t.data.toList) (k := k) (by simp; omega) (by simp; omega))
        go_wp2
        all_goals
          go_ret
          refine ⟨ret_int (by rw [Hc.out, He.out]; simp; omega), _, rfl⟩
  · go_enter Try.func46, Try.ntmps46
    go_wp2
    go_loopw [11] (fun i wr => ∃ (k n : Nat), k ≤ s.size ∧ k ≤ t.size ∧ i = .int .i64 k ∧ wr = w.drewN n ∧ cmpB s.data.toList t.data.toList = cmpB (s.data.toList.drop k) (t.data.toList.drop k)) (fun i _ => s.size - (intOf i).toNat)
    case atStart => exact ⟨0, 0, Nat.zero_le _, Nat.zero_le _, rfl, rfl, rfl⟩
    case round =>
      obtain ⟨k, n, hks, hkt, rfl, rfl, hc⟩ := hrel
      have Hc := Lib.hid hc
      clear hc
      by_cases hlt : k < s.size
      · have hls : k < s.size := by omega
        have hlt' : k < t.size := by omega
        have H1 := Lib.hid (cmpB_lt (a := s.data.toList) (b := t.data.toList) (k := k) (by simpa using hls) (by simpa using hlt'))
        have H2 := Lib.hid (cmpB_gt (a := s.data.toList) (b := t.data.toList) (k := k) (by simpa using hls) (by simpa using hlt'))
        have H3 := Lib.hid (cmpB_next (a := s.data.toList) (b := t.data.toList) (k := k) (by simpa using hls) (by simpa using hlt'))
        have hk0 : (0 : Int) ≤ k := by omega
        have hk1 : (k : Int) < s.size := by omega
        have hk2 : (k : Int) < t.size := by omega
        by_cases ha : s[k].toNat < t[k].toNat
        · have ha' : decide ((s[k].toNat : Int) < (t[k].toNat : Int)) = true := decide_eq_true (by omega)
          go_wp2
          go_quiet (fail)
          go_wp2
          go_ret
          exact ⟨ret_int (by rw [Hc.out, H1.out ha]), _, by simp only [World.drewN_drewN]; rfl⟩
        · by_cases hb : t[k].toNat < s[k].toNat
          · have ha' : decide ((s[k].toNat : Int) < (t[k].toNat : Int)) = false := decide_eq_false (by omega)
            have hb' : decide ((t[k].toNat : Int) < (s[k].toNat : Int)) = true := decide_eq_true (by omega)
            go_wp2
            go_quiet (fail)
            go_wp2
            go_quiet (fail)
            go_wp2
            go_ret
            exact ⟨ret_int (by rw [Hc.out, H2.out hb]), _, by simp only [World.drewN_drewN]; rfl⟩
          · have ha' : decide ((s[k].toNat : Int) < (t[k].toNat : Int)) = false := decide_eq_false (by omega)
            have hb' : decide ((t[k].toNat : Int) < (s[k].toNat : Int)) = false := decide_eq_false (by omega)
            go_wp2
            go_quiet (fail)
            go_wp2
            go_quiet (fail)
            go_wp2
            go_roundw
            case rel => exact ⟨k + 1, _, by omega, by omega, by go_num, rfl, by rw [Hc.out, H3.out (show s[k].toNat = t[k].toNat by omega)]⟩
            case measure => simp [intOf]; omega
      · have He := Lib.hid (cmpB_end (a := s.data.toList) (b := t.data.toList) (k := k) (by simp; omega) (by simp; omega))
        go_wp2
        all_goals
          go_ret
          refine ⟨ret_int (by rw [Hc.out, He.out]; simp; omega), _, rfl⟩
end Go.Proofs.Ytglmhpmjebjcgaa
namespace Go.Proofs.Ytglmhpmjebjcgaa
open Go.RowKit Go.Maps

/-! Keys in order, each with an entry: a sorted list. No program in sight. -/
structure En where
  seg : Int
  at_ : Int
  size : Int
  off : Int
  time : Int
  tomb : Bool
deriving DecidableEq
def En.zero : En := ⟨0, 0, 0, 0, 0, false⟩
abbrev En.v (e : En) : Value := .agg #[.int .i64 e.seg, .int .i64 e.at_, .int .i64 e.size, .int .i64 e.off, .int .i64 e.time, .bool e.tomb]
def En.cells (e : En) : List Value := [.int .i64 e.seg, .int .i64 e.at_, .int .i64 e.size, .int .i64 e.off, .int .i64 e.time, .bool e.tomb]
abbrev KE := ByteArray × En
def kc (a b : ByteArray) : Int := cmpB a.data.toList b.data.toList
theorem cmpB_trans : ∀ {a b c : List UInt8}, cmpB a b = -1 → cmpB b c = -1 → cmpB a c = -1
  | [], [], _, h, _ => by simp [cmpB] at h
  | [], _ :: _, [], _, h => by simp [cmpB] at h
  | [], _ :: _, _ :: _, _, _ => rfl
  | _ :: _, [], _, h, _ => by simp [cmpB] at h
  | _ :: _, _ :: _, [], _, h => by simp [cmpB] at h
  | x :: a, y :: b, z :: c, h1, h2 => by
    simp only [cmpB] at h1 h2 ⊢
    by_cases p1 : x.toNat < y.toNat
    · by_cases q1 : y.toNat < z.toNat
      · rw [if_pos (by omega)]
      · rw [if_neg q1] at h2
        by_cases q2 : z.toNat < y.toNat
        · rw [if_pos q2] at h2; cases h2
        · rw [if_pos (by omega)]
    · rw [if_neg p1] at h1
      by_cases p2 : y.toNat < x.toNat
      · rw [if_pos p2] at h1; cases h1
      · rw [if_neg p2] at h1
        by_cases q1 : y.toNat < z.toNat
        · rw [if_pos (by omega)]
        · rw [if_neg q1] at h2
          by_cases q2 : z.toNat < y.toNat
          · rw [if_pos q2] at h2; cases h2
          · rw [if_neg q2] at h2
            rw [if_neg (by omega), if_neg (by omega)]
            exact cmpB_trans h1 h2
theorem kc_trans {a b c : ByteArray} (h : kc a b = -1) (k : kc b c = -1) : kc a c = -1 := cmpB_trans h k
theorem kc_self (a : ByteArray) : kc a a = 0 := cmpB_self _
theorem kc_eq {a b : ByteArray} (h : kc a b = 0) : a = b := by
  have := cmpB_eq h
  cases a with | mk a => cases b with | mk b => cases a with | mk a => cases b with | mk b => simp only at this; rw [this]
theorem kc_swap (a b : ByteArray) : kc b a = - kc a b := cmpB_swap _ _
theorem kc_range (a b : ByteArray) : kc a b = -1 ∨ kc a b = 0 ∨ kc a b = 1 := cmpB_range _ _
theorem kc_ne {a b : ByteArray} (h : kc a b ≠ 0) : a ≠ b := fun e => h (by rw [e]; exact kc_self _)

def Sorted (xs : List KE) : Prop := xs.Pairwise fun a b => kc a.1 b.1 = -1
def lo (k : ByteArray) (xs : List KE) : List KE := xs.filter fun x => kc x.1 k == -1
def hi (k : ByteArray) (xs : List KE) : List KE := xs.filter fun x => kc k x.1 == -1
def putL (k : ByteArray) (e : En) (xs : List KE) : List KE := lo k xs ++ (k, e) :: hi k xs
def delL (k : ByteArray) (xs : List KE) : List KE := lo k xs ++ hi k xs
def getL (k : ByteArray) (xs : List KE) : Option En := (xs.find? fun x => decide (x.1 = k)).map (·.2)
/-- Each key that is there is one. -/
def KeysOk (xs : List KE) : Prop := ∀ x ∈ xs, 1 ≤ x.1.size ∧ x.1.size ≤ 64

section
variable {k k0 : ByteArray} {e e0 : En} {l r xs ys : List KE}
theorem filter_all {p : KE → Bool} (h : ∀ x ∈ xs, p x = true) : xs.filter p = xs := List.filter_eq_self.2 h
theorem filter_none {p : KE → Bool} (h : ∀ x ∈ xs, p x = false) : xs.filter p = [] := List.filter_eq_nil_iff.2 fun x hx => by rw [h x hx]; simp
theorem Sorted.parts (h : Sorted (l ++ (k0, e0) :: r)) : Sorted l ∧ Sorted r ∧ (∀ x ∈ l, kc x.1 k0 = -1) ∧ (∀ x ∈ r, kc k0 x.1 = -1) ∧ ∀ x ∈ l, ∀ y ∈ r, kc x.1 y.1 = -1 := by
  obtain ⟨h1, h2, h3⟩ := List.pairwise_append.1 h
  obtain ⟨h4, h5⟩ := List.pairwise_cons.1 h2
  exact ⟨h1, h5, fun x hx => h3 x hx (k0, e0) (by simp), fun x hx => h4 x hx, fun x hx y hy => h3 x hx y (by simp [hy])⟩
theorem Sorted.mk' (h1 : Sorted l) (h2 : Sorted r) (h3 : ∀ x ∈ l, kc x.1 k0 = -1) (h4 : ∀ x ∈ r, kc k0 x.1 = -1) : Sorted (l ++ (k0, e0) :: r) :=
  List.pairwise_append.2 ⟨h1, List.pairwise_cons.2 ⟨fun x hx => h4 x hx, h2⟩, fun x hx y hy => by
    rcases List.mem_cons.1 hy with rfl | hy
    · exact h3 x hx
    · exact kc_trans (h3 x hx) (h4 y hy)⟩
theorem lo_less (h : Sorted (l ++ (k0, e0) :: r)) (hk : kc k k0 = -1) : lo k (l ++ (k0, e0) :: r) = lo k l ∧ hi k (l ++ (k0, e0) :: r) = hi k l ++ (k0, e0) :: r := by
  obtain ⟨_, _, h3, h4, _⟩ := h.parts
  have hs := kc_swap k k0
  constructor
  · unfold lo
    rw [List.filter_append, List.filter_cons, if_neg (by simp only [beq_iff_eq]; omega), filter_none (xs := r), List.append_nil]
    intro x hx
    have := kc_trans hk (h4 x hx)
    have := kc_swap k x.1
    simp only [beq_eq_false_iff_ne]; omega
  · unfold hi
    rw [List.filter_append, List.filter_cons, if_pos (by simpa using hk), filter_all (xs := r)]
    intro x hx
    have := kc_trans hk (h4 x hx)
    simpa using this
theorem lo_more (h : Sorted (l ++ (k0, e0) :: r)) (hk : kc k k0 = 1) : lo k (l ++ (k0, e0) :: r) = l ++ (k0, e0) :: lo k r ∧ hi k (l ++ (k0, e0) :: r) = hi k r := by
  obtain ⟨_, _, h3, h4, _⟩ := h.parts
  have hs := kc_swap k k0
  have hk' : kc k0 k = -1 := by omega
  constructor
  · unfold lo
    rw [List.filter_append, List.filter_cons, if_pos (by simpa using hk'), filter_all (xs := l)]
    intro x hx
    have := kc_trans (h3 x hx) hk'
    simpa using this
  · unfold hi
    rw [List.filter_append, List.filter_cons, if_neg (by simp only [beq_iff_eq]; omega), filter_none (xs := l), List.nil_append]
    intro x hx
    have := kc_trans (h3 x hx) hk'
    have := kc_swap x.1 k
    simp only [beq_eq_false_iff_ne]; omega
theorem lo_same (h : Sorted (l ++ (k, e0) :: r)) : lo k (l ++ (k, e0) :: r) = l ∧ hi k (l ++ (k, e0) :: r) = r := by
  obtain ⟨_, _, h3, h4, _⟩ := h.parts
  have hz := kc_self k
  constructor
  · unfold lo
    rw [List.filter_append, List.filter_cons, if_neg (by simp only [beq_iff_eq]; omega), filter_all (fun x hx => by simpa using h3 x hx), filter_none (xs := r), List.append_nil]
    intro x hx
    have := h4 x hx
    have := kc_swap k x.1
    simp only [beq_eq_false_iff_ne]; omega
  · unfold hi
    rw [List.filter_append, List.filter_cons, if_neg (by simp only [beq_iff_eq]; omega), filter_none (xs := l), List.nil_append, filter_all (fun x hx => by simpa using h4 x hx)]
    intro x hx
    have := h3 x hx
    have := kc_swap x.1 k
    simp only [beq_eq_false_iff_ne]; omega
theorem put_nil (k : ByteArray) (e : En) : putL k e [] = [(k, e)] := rfl
theorem put_less (h : Sorted (l ++ (k0, e0) :: r)) (hk : kc k k0 = -1) : putL k e (l ++ (k0, e0) :: r) = putL k e l ++ (k0, e0) :: r := by
  obtain ⟨h1, h2⟩ := lo_less h hk
  unfold putL; rw [h1, h2]; simp
theorem put_more (h : Sorted (l ++ (k0, e0) :: r)) (hk : kc k k0 = 1) : putL k e (l ++ (k0, e0) :: r) = l ++ (k0, e0) :: putL k e r := by
  obtain ⟨h1, h2⟩ := lo_more h hk
  unfold putL; rw [h1, h2]; simp
theorem put_same (h : Sorted (l ++ (k, e0) :: r)) : putL k e (l ++ (k, e0) :: r) = l ++ (k, e) :: r := by
  obtain ⟨h1, h2⟩ := lo_same h
  unfold putL; rw [h1, h2]
theorem del_less (h : Sorted (l ++ (k0, e0) :: r)) (hk : kc k k0 = -1) : delL k (l ++ (k0, e0) :: r) = delL k l ++ (k0, e0) :: r := by
  obtain ⟨h1, h2⟩ := lo_less h hk
  unfold delL; rw [h1, h2]; simp
theorem del_more (h : Sorted (l ++ (k0, e0) :: r)) (hk : kc k k0 = 1) : delL k (l ++ (k0, e0) :: r) = l ++ (k0, e0) :: delL k r := by
  obtain ⟨h1, h2⟩ := lo_more h hk
  unfold delL; rw [h1, h2]; simp
theorem del_same (h : Sorted (l ++ (k, e0) :: r)) : delL k (l ++ (k, e0) :: r) = l ++ r := by
  obtain ⟨h1, h2⟩ := lo_same h
  unfold delL; rw [h1, h2]
theorem Sorted.one (h : Sorted xs) {a b : En} (ha : (k, a) ∈ xs) (hb : (k, b) ∈ xs) : a = b := by
  induction xs with
  | nil => cases ha
  | cons x xs ih =>
    obtain ⟨h1, h2⟩ := List.pairwise_cons.1 h
    rcases List.mem_cons.1 ha with rfl | ha'
    · rcases List.mem_cons.1 hb with hb' | hb'
      · cases hb'; rfl
      · have := h1 _ hb'; rw [kc_self] at this; cases this
    · rcases List.mem_cons.1 hb with rfl | hb'
      · have := h1 _ ha'; rw [kc_self] at this; cases this
      · exact ih h2 ha' hb'
theorem get_mem (h : Sorted xs) : getL k xs = some e ↔ (k, e) ∈ xs := by
  unfold getL
  constructor
  · intro hg
    rw [Option.map_eq_some_iff] at hg
    obtain ⟨⟨k', e'⟩, h1, rfl⟩ := hg
    have h2 := List.find?_some h1
    simp only [decide_eq_true_eq] at h2
    subst h2
    exact List.mem_of_find?_eq_some h1
  · intro hm
    cases hf : xs.find? fun x => decide (x.1 = k) with
    | none =>
      have := List.find?_eq_none.1 hf _ hm
      simp at this
    | some y =>
      have h2 := List.find?_some hf
      simp only [decide_eq_true_eq] at h2
      obtain ⟨k', e'⟩ := y
      simp only at h2
      subst h2
      rw [Option.map_some, h.one (List.mem_of_find?_eq_some hf) hm]
theorem get_none : getL k xs = none ↔ ∀ x ∈ xs, x.1 ≠ k := by
  unfold getL
  rw [Option.map_eq_none_iff, List.find?_eq_none]
  simp
theorem mem_lo {x : KE} : x ∈ lo k xs ↔ x ∈ xs ∧ kc x.1 k = -1 := by simp [lo]
theorem mem_hi {x : KE} : x ∈ hi k xs ↔ x ∈ xs ∧ kc k x.1 = -1 := by simp [hi]
theorem ne_kc {a b : ByteArray} : a ≠ b ↔ kc a b = -1 ∨ kc b a = -1 := by
  have := kc_swap a b
  constructor
  · intro h
    rcases kc_range a b with h1 | h1 | h1
    · exact .inl h1
    · exact absurd (kc_eq h1) h
    · exact .inr (by omega)
  · rintro (h | h) rfl
    · rw [kc_self] at h; cases h
    · rw [kc_self] at h; cases h
theorem mem_del {x : KE} : x ∈ delL k xs ↔ x ∈ xs ∧ x.1 ≠ k := by
  unfold delL
  rw [List.mem_append, mem_lo, mem_hi, ne_kc]
  constructor
  · rintro (⟨h1, h2⟩ | ⟨h1, h2⟩)
    · exact ⟨h1, .inl h2⟩
    · exact ⟨h1, .inr h2⟩
  · rintro ⟨h1, h2 | h2⟩
    · exact .inl ⟨h1, h2⟩
    · exact .inr ⟨h1, h2⟩
theorem mem_put {x : KE} : x ∈ putL k e xs ↔ x = (k, e) ∨ (x ∈ xs ∧ x.1 ≠ k) := by
  rw [← mem_del]
  unfold putL delL
  simp only [List.mem_append, List.mem_cons]
  constructor
  · rintro (h | h | h)
    · exact .inr (.inl h)
    · exact .inl h
    · exact .inr (.inr h)
  · rintro (h | h | h)
    · exact .inr (.inl h)
    · exact .inl h
    · exact .inr (.inr h)
theorem Sorted.filter (h : Sorted xs) (p : KE → Bool) : Sorted (xs.filter p) := List.Pairwise.filter p h
theorem Sorted.put (h : Sorted xs) (k : ByteArray) (e : En) : Sorted (putL k e xs) :=
  Sorted.mk' (h.filter _) (h.filter _) (fun _ hx => (mem_lo.1 hx).2) fun _ hx => (mem_hi.1 hx).2
theorem Sorted.del (h : Sorted xs) (k : ByteArray) : Sorted (delL k xs) :=
  List.pairwise_append.2 ⟨h.filter _, h.filter _, fun _ hx _ hy => kc_trans (mem_lo.1 hx).2 (mem_hi.1 hy).2⟩
theorem KeysOk.put (h : KeysOk xs) (hk : 1 ≤ k.size ∧ k.size ≤ 64) : KeysOk (putL k e xs) := fun x hx => by
  rcases mem_put.1 hx with rfl | ⟨hx, _⟩
  · exact hk
  · exact h x hx
theorem KeysOk.del (h : KeysOk xs) : KeysOk (delL k xs) := fun x hx => h x (mem_del.1 hx).1
theorem get_put (h : Sorted xs) (k' : ByteArray) : getL k' (putL k e xs) = if k' = k then some e else getL k' xs := by
  split
  · rename_i hk
    subst hk
    exact (get_mem (h.put _ _)).2 (mem_put.2 (.inl rfl))
  · rename_i hk
    cases hg : getL k' xs with
    | none =>
      rw [get_none] at hg ⊢
      intro x hx
      rcases mem_put.1 hx with rfl | ⟨hx, _⟩
      · exact fun e => hk e.symm
      · exact hg x hx
    | some a => exact (get_mem (h.put _ _)).2 (mem_put.2 (.inr ⟨(get_mem h).1 hg, hk⟩))
theorem get_del (h : Sorted xs) (k' : ByteArray) : getL k' (delL k xs) = if k' = k then none else getL k' xs := by
  split
  · rename_i hk
    subst hk
    rw [get_none]
    exact fun x hx => (mem_del.1 hx).2
  · rename_i hk
    cases hg : getL k' xs with
    | none =>
      rw [get_none] at hg ⊢
      exact fun x hx => hg x (mem_del.1 hx).1
    | some a => exact (get_mem (h.del _)).2 (mem_del.2 ⟨(get_mem h).1 hg, hk⟩)
/-- Two sorted lists that answer alike are one. -/
theorem Sorted.ext : ∀ {xs ys : List KE}, Sorted xs → Sorted ys → (∀ x, x ∈ xs ↔ x ∈ ys) → xs = ys
  | [], [], _, _, _ => rfl
  | [], y :: _, _, _, h => by have := (h y).2 (by simp); cases this
  | x :: _, [], _, _, h => by have := (h x).1 (by simp); cases this
  | x :: xs, y :: ys, h1, h2, h => by
    obtain ⟨a1, a2⟩ := List.pairwise_cons.1 h1
    obtain ⟨b1, b2⟩ := List.pairwise_cons.1 h2
    have hxy : x = y := by
      rcases List.mem_cons.1 ((h x).1 (by simp)) with e | hx
      · exact e
      · rcases List.mem_cons.1 ((h y).2 (by simp)) with e | hy
        · exact e.symm
        · have := kc_trans (a1 y hy) (b1 x hx)
          rw [kc_self] at this; cases this
    subst hxy
    rw [Sorted.ext a2 b2 fun z => ?_]
    constructor
    · intro hz
      rcases List.mem_cons.1 ((h z).1 (by simp [hz])) with rfl | hz'
      · have := a1 z hz; rw [kc_self] at this; cases this
      · exact hz'
    · intro hz
      rcases List.mem_cons.1 ((h z).2 (by simp [hz])) with rfl | hz'
      · have := b1 z hz; rw [kc_self] at this; cases this
      · exact hz'
theorem Sorted.ext_get (h1 : Sorted xs) (h2 : Sorted ys) (h : ∀ k, getL k xs = getL k ys) : xs = ys := h1.ext h2 fun ⟨k, e⟩ => by rw [← get_mem h1, ← get_mem h2, h]
theorem put_len (k : ByteArray) (e : En) (xs : List KE) : (putL k e xs).length ≤ xs.length + 1 := by
  unfold putL
  rw [List.length_append, List.length_cons]
  have h : ∀ xs : List KE, (lo k xs).length + (hi k xs).length ≤ xs.length := by
    intro xs
    induction xs with
    | nil => simp [lo, hi]
    | cons x xs ih =>
      unfold lo hi at ih ⊢
      simp only [List.filter_cons, List.length_cons, beq_iff_eq]
      have := kc_swap x.1 k
      split <;> split <;> (try simp only [List.length_cons]) <;> omega
  have := h xs
  omega
theorem del_len (k : ByteArray) (xs : List KE) : (delL k xs).length ≤ xs.length := by
  have := put_len k En.zero xs
  unfold putL at this
  unfold delL
  simp only [List.length_append, List.length_cons] at this ⊢
  omega
end
end Go.Proofs.Ytglmhpmjebjcgaa
namespace Go.Proofs.Ytglmhpmjebjcgaa
open Go.RowKit Go.Maps

/-! The tree in memory. -/
inductive Tn where
  | leaf
  | node (k : ByteArray) (e : En) (l r : Tn)
def Tn.flat : Tn → List KE
  | .leaf => []
  | .node k e l r => l.flat ++ (k, e) :: r.flat
def Tn.cnt (t : Tn) : Nat := t.flat.length
theorem Tn.cnt_node (k : ByteArray) (e : En) (l r : Tn) : (Tn.node k e l r).cnt = l.cnt + r.cnt + 1 := by simp [Tn.cnt, Tn.flat]; omega
def nodeC (k : ByteArray) (e : En) (n : Nat) (p q : Option Addr) : Array Value := #[.string k, .int .i64 e.seg, .int .i64 e.at_, .int .i64 e.size, .int .i64 e.off, .int .i64 e.time, .bool e.tomb, .int .i64 n, .pointer p, .pointer q]
/-- The tree t hangs on p, below block B. -/
def Tr (w : World) (B : Nat) : Tn → Option Addr → Prop
  | .leaf, p => p = none
  | .node k e l r, p => ∃ (b : Nat) (p1 p2 : Option Addr), p = some ⟨b, 0, none⟩ ∧ b < B ∧ Box w b 79 (nodeC k e (Tn.node k e l r).cnt p1 p2) ∧ Tr w B l p1 ∧ Tr w B r p2
theorem Tr.keep {w w' : World} {B B' : Nat} (hh : ∀ b : Nat, b < B → w'.heap[b]? = w.heap[b]?) (hB : B ≤ B') : ∀ {t : Tn} {p : Option Addr}, Tr w B t p → Tr w' B' t p
  | .leaf, _, h => h
  | .node _ _ _ _, _, ⟨b, p1, p2, h1, h2, h3, h4, h5⟩ => ⟨b, p1, p2, h1, by omega, (hh b h2).trans h3, Tr.keep hh hB h4, Tr.keep hh hB h5⟩
theorem Tr.below {w w' : World} {t : Tn} {p : Option Addr} (h : Tr w w.heap.size t p) (hb : Below w.heap.size w w') : Tr w' w'.heap.size t p := h.keep (fun b hlt => hb.block b hlt) hb.size
theorem Tr.mono {w : World} {B B' : Nat} {t : Tn} {p : Option Addr} (h : Tr w B t p) (hB : B ≤ B') : Tr w B' t p := h.keep (fun _ _ => rfl) hB
/-- A node that was just made. -/
theorem Tr.mk {w : World} {k : ByteArray} {e : En} {l r : Tn} {p q : Option Addr} (n : Nat) (hn : n = l.cnt + r.cnt + 1) (hl : Tr w w.heap.size l p) (hr : Tr w w.heap.size r q) :
    Tr (w.alloc (.cells (nodeC k e n p q) 79)) (w.alloc (.cells (nodeC k e n p q) 79)).heap.size (.node k e l r) (some ⟨w.heap.size, 0, none⟩) := by
  have hb : Below w.heap.size w (w.alloc (.cells (nodeC k e n p q) 79)) := (Below.refl _ _).alloc (Nat.le_refl _) _
  refine ⟨w.heap.size, p, q, rfl, by simp, ?_, hl.below hb, hr.below hb⟩
  rw [Tn.cnt_node, ← hn]
  exact Box.new w _ _
theorem Tr.mk' {w W : World} {k : ByteArray} {e : En} {l r : Tn} {p q : Option Addr} {n s : Nat} (hs : w.heap.size = s) (hn : n = l.cnt + r.cnt + 1) (hl : Tr w s l p) (hr : Tr w s r q) (hW : W.heap = (w.alloc (.cells (nodeC k e n p q) 79)).heap) :
    Tr W W.heap.size (.node k e l r) (some ⟨s, 0, none⟩) := by
  subst hs
  exact (Tr.mk n hn hl hr).keep (fun b _ => by rw [hW]) (by rw [hW]; exact Nat.le_refl _)

/-- The cells of a node, as the walk reads them. -/
theorem Tr.cells {w : World} {B : Nat} {k : ByteArray} {e : En} {l r : Tn} {p : Option Addr} (h : Tr w B (.node k e l r) p) : ∃ (b : Nat) (p1 p2 : Option Addr), p = some ⟨b, 0, none⟩ ∧ b < B ∧ Tr w B l p1 ∧ Tr w B r p2 ∧
    Box w b 79 (nodeC k e (l.cnt + r.cnt + 1) p1 p2) := by
  obtain ⟨b, p1, p2, h1, h2, h3, h4, h5⟩ := h
  rw [Tn.cnt_node] at h3
  exact ⟨b, p1, p2, h1, h2, h4, h5, h3⟩

set_option maxRecDepth 100000 in
theorem count_any (t : Tn) (p : Option Addr) (B : Nat) (w : World) (h : Tr w B t p) : Calls Try.prog 47 #[.pointer p] w fun e w' => e = .returned (.int .i64 t.cnt) ∧ w = w' := by
  cases t with
  | leaf =>
    obtain rfl : p = none := h
    go_enter Try.func47, Try.ntmps47
    go_wp2
    go_ret
    exact ⟨rfl, rfl⟩
  | node k e l r =>
    obtain ⟨b, p1, p2, rfl, _, _, _, hx⟩ := h.cells
    have h2 : w.cell? ⟨b, 7, none⟩ = some (.int .i64 ((l.cnt + r.cnt + 1 : Nat) : Int)) := hx.cell 7
    rw [Tn.cnt_node]
    generalize l.cnt + r.cnt + 1 = n at h2
    clear h hx
    go_enter Try.func47, Try.ntmps47
    go_wp2
    go_ret
    exact ⟨rfl, rfl⟩
set_option maxRecDepth 100000 in
theorem heavy_any (t u : Tn) (p q : Option Addr) (B : Nat) (w : World) (h : Tr w B t p) (k : Tr w B u q) (ht : t.cnt ≤ 1000000000000000) (hu : u.cnt ≤ 1000000000000000) :
    Calls Try.prog 57 #[.pointer p, .pointer q] w fun e w' => e = .returned (.bool (decide (3 * (u.cnt + 1) < t.cnt + 1))) ∧ w = w' := by
  have H := Lib.hid h
  have K := Lib.hid k
  clear h k
  go_enter Try.func57, Try.ntmps57
  go_wp2_with (first
    | (go_at_call 47; (with_reducible refine (count_any t p B _ H.out).mono ?_); rintro e w' ⟨rfl, rfl⟩)
    | (go_at_call 47; (with_reducible refine (count_any u q B _ K.out).mono ?_); rintro e w' ⟨rfl, rfl⟩))
  go_ret
  exact ⟨ret_bool (by rw [Bool.eq_iff_iff]; simp only [decide_eq_true_eq]; omega), rfl⟩
set_option maxRecDepth 100000 in
theorem inner_any (t u : Tn) (p q : Option Addr) (B : Nat) (w : World) (h : Tr w B t p) (k : Tr w B u q) (ht : t.cnt ≤ 1000000000000000) (hu : u.cnt ≤ 1000000000000000) :
    Calls Try.prog 58 #[.pointer p, .pointer q] w fun e w' => e = .returned (.bool (decide (2 * (u.cnt + 1) ≤ t.cnt + 1))) ∧ w = w' := by
  have H := Lib.hid h
  have K := Lib.hid k
  clear h k
  go_enter Try.func58, Try.ntmps58
  go_wp2_with (first
    | (go_at_call 47; (with_reducible refine (count_any t p B _ H.out).mono ?_); rintro e w' ⟨rfl, rfl⟩)
    | (go_at_call 47; (with_reducible refine (count_any u q B _ K.out).mono ?_); rintro e w' ⟨rfl, rfl⟩))
  go_ret
  exact ⟨ret_bool (by rw [Bool.eq_iff_iff]; simp only [decide_eq_true_eq]; omega), rfl⟩

/-- What a function that makes a tree answers. -/
def MT (xs : List KE) (w : World) (e : Ending) (w' : World) : Prop := ∃ (t : Tn) (p : Option Addr), e = .returned (.pointer p) ∧ t.flat = xs ∧ Tr w' w'.heap.size t p ∧ Below w.heap.size w w'

set_option maxRecDepth 100000 in
theorem join_any (k : ByteArray) (en : En) (l r : Tn) (p q : Option Addr) (w : World) (hl : Tr w w.heap.size l p) (hr : Tr w w.heap.size r q) (ht : l.cnt ≤ 1000000000000000) (hu : r.cnt ≤ 1000000000000000) :
    Calls Try.prog 51 #[.string k, en.v, .pointer p, .pointer q] w (MT (l.flat ++ (k, en) :: r.flat) w) := by
  have hb : Below w.heap.size w (w.alloc (.cells en.cells.toArray 38)) := (Below.refl _ _).alloc (Nat.le_refl _) _
  have hH : ∀ W' : World, W'.heap = (w.alloc (.cells en.cells.toArray 38)).heap → Tr W' (w.heap.size + 1) l p ∧ Tr W' (w.heap.size + 1) r q := fun W' h => by
    have h1 := hl.below hb
    have h2 := hr.below hb
    rw [World.size_alloc] at h1 h2
    exact ⟨h1.keep (fun b _ => by rw [h]) (Nat.le_refl _), h2.keep (fun b _ => by rw [h]) (Nat.le_refl _)⟩
  have H := Lib.hid hH
  have HB := Lib.hid hb
  have hB := Box.new w 38 en.cells.toArray
  have hc := hB.cell
  clear hl hr hb hB hH
  unfold En.cells at hc
  unfold En.v
  go_enter Try.func51, Try.ntmps51
  go_wp2
  go_region_held3 (fun w' => w'.cell? ⟨w.heap.size, 0, none⟩ = some (.int .i64 en.seg) ∧ w'.cell? ⟨w.heap.size, 1, none⟩ = some (.int .i64 en.at_) ∧ w'.cell? ⟨w.heap.size, 2, none⟩ = some (.int .i64 en.size) ∧ w'.cell? ⟨w.heap.size, 3, none⟩ = some (.int .i64 en.off) ∧ w'.cell? ⟨w.heap.size, 4, none⟩ = some (.int .i64 en.time) ∧ w'.cell? ⟨w.heap.size, 5, none⟩ = some (.bool en.tomb)) (go_keep)
    (first
      | (go_at_call 47; (with_reducible refine (count_any l p (w.heap.size + 1) _ ?_).mono ?_); (exact (H.out _ (by rfl)).1); rintro e w' ⟨rfl, rfl⟩)
      | (go_at_call 47; (with_reducible refine (count_any r q (w.heap.size + 1) _ ?_).mono ?_); (exact (H.out _ (by rfl)).2); rintro e w' ⟨rfl, rfl⟩))
  have hw : IntKind.i64.wrap (IntKind.i64.wrap ((l.cnt : Int) + r.cnt) + 1) = ((l.cnt + r.cnt + 1 : Nat) : Int) := by
    rw [IntWalk.i64_in ((l.cnt : Int) + r.cnt) ⟨by omega, by omega⟩, IntWalk.i64_in _ ⟨by omega, by omega⟩]; omega
  have HW := Lib.hid hw
  clear hw hc
  all_goals
    go_wp2
    go_ret
    rw [HW.out]
    refine ⟨.node k en l r, some ⟨w.heap.size + 1, 0, none⟩, rfl, rfl, Tr.mk' (w := w.alloc (.cells en.cells.toArray 38)) (n := l.cnt + r.cnt + 1) (by simp) rfl (H.out _ rfl).1 (H.out _ rfl).2 (by rfl), ?_⟩
    exact (HB.out.alloc HB.out.size _).drew
end Go.Proofs.Ytglmhpmjebjcgaa
