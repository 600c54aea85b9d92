import Derived.WalkKit
import Derived.WalkSpells
import Derived.WalkLawsBesides
import Derived.Deep.QuietTactic
import Derived.BigQuiet
import Derived.Lib.Hide
import Derived.Maps.OwnOps
import Derived.Maps.OwnSet
import Derived.Maps.Views
import Derived.Maps.Keyed
import Derived.Maps.AppendAt
import Derived.Maps.RangeWalk
import Derived.RegionTactic
import Derived.BigRegion
import Derived.OrdersHeld
import Derived.StillTail
import Derived.Deep.RegionHeld
import Derived.StillTactics
import Derived.RegionIn
import Derived.TacticsIn
import Derived.CallsIn
set_option linter.unusedVariables false
set_option linter.unusedSimpArgs false
/-
  Words that all texts of this seat share: a slice that reads as a list of cells; a map from int to int as a function. No program in sight.
-/
namespace Go.Proofs.YtmhlgbpgdhhfnaaGreat
open Go.RowKit Go.Maps

theorem add_block (a : Addr) (n : Nat) : (a.add n).block = a.block := by unfold Addr.add; split <;> rfl
theorem add_add' (a : Addr) (i j : Nat) : (a.add i).add j = a.add (i + j) := by
  unfold Addr.add
  by_cases hi : i = 0 <;> by_cases hj : j = 0 <;> simp [hi, hj, Nat.add_assoc]

/-- The cells xs lie behind the address A, all below block B. -/
def Rd (w : World) (B : Nat) (A : Option Addr) (xs : List Value) : Prop :=
  ∀ (j : Nat) (u : Value), xs[j]? = some u → ∃ ad : Addr, A = some ad ∧ ad.block < B ∧ w.cell? (ad.add j) = some u

section
variable {w w' : World} {B B' : Nat} {A : Option Addr} {xs : List Value}
theorem Rd.nil (w : World) (B : Nat) (A : Option Addr) : Rd w B A [] := by intro j u h; simp at h
theorem Rd.keep (h : Rd w B A xs) (hk : ∀ p : Addr, p.block < B → w'.cell? p = w.cell? p) : Rd w' B A xs := by
  intro j u hj
  obtain ⟨ad, rfl, hb, hc⟩ := h j u hj
  exact ⟨ad, rfl, hb, (hk _ (by rw [add_block]; exact hb)).trans hc⟩
theorem Rd.below (h : Rd w B A xs) (hb : Below B w w') : Rd w' B A xs := h.keep fun _ hp => hb.cell hp
theorem Rd.mono (h : Rd w B A xs) (hB : B ≤ B') : Rd w B' A xs := by
  intro j u hj
  obtain ⟨ad, rfl, hb, hc⟩ := h j u hj
  exact ⟨ad, rfl, by omega, hc⟩
theorem Rd.some_ (h : Rd w B A xs) (hn : 0 < xs.length) : ∃ ad : Addr, A = some ad ∧ ad.block < B ∧ ∀ (j : Nat) (u : Value), xs[j]? = some u → w.cell? (ad.add j) = some u := by
  obtain ⟨ad, rfl, hb, _⟩ := h 0 _ (List.getElem?_eq_getElem hn)
  refine ⟨ad, rfl, hb, fun j u hj => ?_⟩
  obtain ⟨ad', he, _, hc⟩ := h j u hj
  cases he
  exact hc
/-- A row of ints: the k-th. -/
theorem Rd.int {k : IntKind} {l : List Int} (h : Rd w B A (l.map (Value.int k))) {i : Nat} (hi : i < l.length) :
    ∃ ad : Addr, A = some ad ∧ ad.block < B ∧ w.cell? (ad.add i) = some (.int k l[i]) := by
  obtain ⟨ad, rfl, hb, hc⟩ := h i (.int k l[i]) (by simp [hi])
  exact ⟨ad, rfl, hb, hc⟩
end

theorem below_drewN {B : Nat} {a w : World} (h : Below B a w) (n : Nat) : Below B a (w.drewN n) := ⟨h.os, h.tape, h.output, h.size, h.block⟩
theorem ret_bool {a b : Bool} (h : a = b) : Ending.returned (.bool a) = .returned (.bool b) := by rw [h]
theorem ret_int {k : IntKind} {a b : Int} (h : a = b) : Ending.returned (.int k a) = .returned (.int k b) := by rw [h]

/-! Maps from int to int. -/
section
variable {P : Program} {K E : TypeId}
/-- Block b is a map of at most n entries that tells f of each int (0 where it has none). -/
def IMap (P : Program) (K E : TypeId) (w : World) (b n : Nat) (f : Int → Int) : Prop :=
  ∃ D : DataW Unit, w.ownsMap P K (plainElem P E) b n D ∧ IsMap D ∧ ∀ x : Int, (Lit.int .i64 x).wf = true → D.atKey (.int .i64 x) (.lit (.int .i64 0)) = .lit (.int .i64 (f x))
theorem IMap.made (w : World) : IMap P K E (w.alloc (.map #[] 0)) w.heap.size 0 fun _ => 0 :=
  ⟨.map [], World.ownsMap_made _ _ _ _, isMap_empty, fun _ _ => rfl⟩
theorem IMap.lt {w : World} {b n : Nat} {f : Int → Int} (h : IMap P K E w b n f) : b < w.heap.size := let ⟨_, h1, _⟩ := h; h1.lt
theorem IMap.store {w : World} {b n : Nat} {f : Int → Int} (h : IMap P K E w b n f) (hk : P.underlying K = some (.int .i64)) (he : P.underlying E = some (.int .i64)) {T : TypeId} (ht : P.underlying T = some (.map K E))
    (hn : n < maxLen) (x v : Int) (hx : (Lit.int .i64 x).wf = true) (hv : (Lit.int .i64 v).wf = true) :
    ∃ w', (Instr.mapUpdate T (.map (some b)) (.int .i64 x) (.int .i64 v)).run P w = .ok () w' ∧ IMap P K E w' b (n + 1) (fun y => if y = x then v else f y) ∧ w.grownBy w' (some b) := by
  obtain ⟨D, h1, h2, h3⟩ := h
  obtain ⟨w', hrun, r1, r2⟩ := h1.update (int_keyed hk) ht hn (keyOf_int_mk hk hx) (plainElem_int he hv)
  refine ⟨w', hrun, ⟨_, r1, h2.put _ _, fun y hy => ?_⟩, r2⟩
  by_cases hyx : y = x
  · subst hyx
    show _ = DataW.lit (.int .i64 (if y = y then v else f y))
    rw [if_pos rfl]
    exact atKey_put_same h2 (by trivial) _ _
  show _ = DataW.lit (.int .i64 (if y = x then v else f y))
  rw [if_neg hyx, atKey_put_other (by simpa using hyx)]
  exact h3 y hy
end

end Go.Proofs.YtmhlgbpgdhhfnaaGreat
/-
  Words for memory of the call's own: a row of cells known from its head on; what a call may have changed; append of a slice that reads as a list.
-/
namespace Go.Proofs.YtmhlgbpgdhhfnaaGreat
open Go.RowKit Go.Maps

/-- Block g (from B on) is a row of type t that begins with the cells cs; none is frozen. -/
def Own (w : World) (B g : Nat) (t : TypeId) (cs : List Value) : Prop := B ≤ g ∧ ∃ rest : List Value, w.heap[g]? = some (.cells (cs ++ rest).toArray t (0, 0))
/-- Block b is just these cells. -/
def Box (w : World) (b : Nat) (t : TypeId) (cs : Array Value) : Prop := w.heap[b]? = some (.cells cs t (0, 0))
/-- Of the blocks that were there only those of S may have changed. -/
structure Chg (S : Nat → Prop) (w w' : World) : Prop where
  os : w'.os = w.os
  tape : w'.tape = w.tape
  output : w'.output = w.output
  size : w.heap.size ≤ w'.heap.size
  block : ∀ k, k < w.heap.size → ¬ S k → w'.heap[k]? = w.heap[k]?

section
variable {w w' : World} {B g b : Nat} {t : TypeId} {cs : List Value} {ar : Array Value} {S : Nat → Prop}
theorem Chg.refl (S : Nat → Prop) (w : World) : Chg S w w := ⟨rfl, rfl, rfl, Nat.le_refl _, fun _ _ _ => rfl⟩
theorem Chg.trans {a b c : World} (h : Chg S a b) (k : Chg S b c) : Chg S a c :=
  ⟨k.os.trans h.os, k.tape.trans h.tape, k.output.trans h.output, Nat.le_trans h.size k.size, fun i hi hn => (k.block i (Nat.lt_of_lt_of_le hi h.size) hn).trans (h.block i hi hn)⟩
theorem Chg.mono {S' : Nat → Prop} (h : Chg S w w') (hs : ∀ k, k < w.heap.size → S k → S' k) : Chg S' w w' := ⟨h.os, h.tape, h.output, h.size, fun k hk hn => h.block k hk fun hS => hn (hs k hk hS)⟩
theorem Chg.of_below (h : Below w.heap.size w w') (S : Nat → Prop) : Chg S w w' := ⟨h.os, h.tape, h.output, h.size, fun k hk _ => h.block k hk⟩
theorem Chg.below (h : Chg S w w') (hB : B ≤ w.heap.size) (hs : ∀ k, S k → B ≤ k) : Below B w w' := ⟨h.os, h.tape, h.output, h.size, fun k hk => h.block k (by omega) fun hS => by have := hs k hS; omega⟩
theorem Chg.drewN {a : World} (h : Chg S a w) (n : Nat) : Chg S a (w.drewN n) := ⟨h.os, h.tape, h.output, h.size, h.block⟩
theorem Chg.drew {a : World} (h : Chg S a w) : Chg S a w.drew := ⟨h.os, h.tape, h.output, h.size, h.block⟩
theorem Chg.alloc {a : World} (h : Chg S a w) (o : Obj) : Chg S a (w.alloc o) := h.trans (Chg.of_below ((Below.refl _ _).alloc (Nat.le_refl _) o) S)
theorem Chg.setCell {a : World} (h : Chg S a w) {p : Addr} (hp : S p.block ∨ a.heap.size ≤ p.block) (u : Value) : Chg S a (w.setCell p u) :=
  ⟨h.os, h.tape, h.output, by simpa [World.setCell] using h.size, fun k hk hn => (Below.heap_setCell w p u k (by
    rintro rfl
    rcases hp with hp | hp
    · exact hn hp
    omega)).trans (h.block k hk hn)⟩

theorem Box.new (w : World) (t : TypeId) (ar : Array Value) : Box (w.alloc (.cells ar t)) w.heap.size t ar := heap_alloc_new w _
theorem Box.lt (h : Box w b t ar) : b < w.heap.size := by
  rcases Nat.lt_or_ge b w.heap.size with hlt | hge
  · exact hlt
  unfold Box at h; rw [Array.getElem?_eq_none hge] at h; cases h
theorem Box.cell (h : Box w b t ar) (i : Nat) : w.cell? ⟨b, i, none⟩ = ar[i]? := cell_of_row w b i ar t (0, 0) h
theorem Box.free (h : Box w b t ar) (i : Nat) : w.frozen? ⟨b, i, none⟩ = false := by unfold Box at h; simp [World.frozen?, h]
theorem Box.chg (h : Box w b t ar) (hc : Chg S w w') (hn : ¬ S b) : Box w' b t ar := (hc.block b h.lt hn).trans h
theorem Box.below (h : Box w b t ar) (hb : Below B w w') (hlt : b < B) : Box w' b t ar := (hb.block b hlt).trans h
theorem Box.alloc (h : Box w b t ar) (o : Obj) : Box (w.alloc o) b t ar := (Below.heap_alloc w o b h.lt).trans h
theorem Box.grown {row : Option Nat} (h : Box w b t ar) (hg : w.grownBy w' row) (hn : some b ≠ row) : Box w' b t ar := (hg.block b h.lt hn).trans h
theorem Box.drewN (h : Box w b t ar) (n : Nat) : Box (w.drewN n) b t ar := h
theorem Box.far (h : Box w b t ar) {p : Addr} (hp : b ≠ p.block) (u : Value) : Box (w.setCell p u) b t ar := (Below.heap_setCell w p u b hp).trans h
theorem Box.set_ (h : Box w b t ar) (i : Nat) (u : Value) : Box (w.setCell ⟨b, i, none⟩ u) b t (ar.setIfInBounds i u) := by
  unfold Box at h ⊢
  simp [World.setCell, Array.getElem?_modify, h]

theorem Own.lt (h : Own w B g t cs) : g < w.heap.size := by
  obtain ⟨_, rest, h⟩ := h
  rcases Nat.lt_or_ge g w.heap.size with hlt | hge
  · exact hlt
  rw [Array.getElem?_eq_none hge] at h; cases h
theorem Own.le {B' : Nat} (h : Own w B g t cs) (hb : B' ≤ B) : Own w B' g t cs := ⟨Nat.le_trans hb h.1, h.2⟩
theorem Own.cell (h : Own w B g t cs) {i : Nat} (hi : i < cs.length) : w.cell? ⟨g, i, none⟩ = some cs[i] := by
  obtain ⟨_, rest, h⟩ := h
  rw [cell_of_row w g i _ t (0, 0) h]
  simp [List.getElem?_append_left hi]
theorem Own.free (h : Own w B g t cs) (i : Nat) : w.frozen? ⟨g, i, none⟩ = false := by
  obtain ⟨_, rest, h⟩ := h
  simp [World.frozen?, h]
theorem Own.chg (h : Own w B g t cs) (hc : Chg S w w') (hn : ¬ S g) : Own w' B g t cs :=
  have hl := h.lt
  let ⟨hB, rest, h⟩ := h; ⟨hB, rest, (hc.block g hl hn).trans h⟩
theorem Own.below {B' : Nat} (h : Own w B g t cs) (hb : Below B' w w') (hlt : g < B') : Own w' B g t cs :=
  let ⟨hB, rest, h⟩ := h; ⟨hB, rest, (hb.block g hlt).trans h⟩
theorem Own.alloc (h : Own w B g t cs) (o : Obj) : Own (w.alloc o) B g t cs :=
  have hl := h.lt
  let ⟨hB, rest, h⟩ := h; ⟨hB, rest, (Below.heap_alloc w o g hl).trans h⟩
theorem Own.drewN (h : Own w B g t cs) (n : Nat) : Own (w.drewN n) B g t cs := h
theorem Own.drew (h : Own w B g t cs) : Own w.drew B g t cs := h
theorem Box.drew (h : Box w b t ar) : Box w.drew b t ar := h
theorem Own.grown {row : Option Nat} (h : Own w B g t cs) (hg : w.grownBy w' row) (hn : some g ≠ row) : Own w' B g t cs :=
  have hl := h.lt
  let ⟨hB, rest, h⟩ := h; ⟨hB, rest, (hg.block g hl hn).trans h⟩
theorem Own.far (h : Own w B g t cs) {p : Addr} (hp : g ≠ p.block) (u : Value) : Own (w.setCell p u) B g t cs :=
  let ⟨hB, rest, h⟩ := h; ⟨hB, rest, (Below.heap_setCell w p u g hp).trans h⟩
theorem Own.set_ (h : Own w B g t cs) {i : Nat} (hi : i < cs.length) (u : Value) : Own (w.setCell ⟨g, i, none⟩ u) B g t (cs.set i u) := by
  obtain ⟨hB, rest, h⟩ := h
  refine ⟨hB, rest, ?_⟩
  simp [World.setCell, Array.getElem?_modify, h, List.set_append_left _ _ hi]
theorem Own.rd (h : Own w B g t cs) {B' : Nat} (hg : g < B') {xs : List Value} (hx : ∀ (j : Nat) (u : Value), xs[j]? = some u → cs[j]? = some u) : Rd w B' (some ⟨g, 0, none⟩) xs := by
  intro j u hj
  have := hx j u hj
  refine ⟨_, rfl, hg, ?_⟩
  have hi : j < cs.length := (List.getElem?_eq_some_iff.1 this).1
  have e : (⟨g, 0, none⟩ : Addr).add j = ⟨g, j, none⟩ := by unfold Addr.add; split <;> simp_all
  rw [e, h.cell hi, ← this, List.getElem?_eq_getElem hi]
theorem Own.of_row {e : TypeId} {size n : Nat} {v : Value} {xs : List Value} (h : w.ownsRow B e size v n xs) (hn : 0 < n) :
    ∃ g cap, v = .slice (some ⟨g, 0, none⟩) n cap ∧ n ≤ cap ∧ cap ≤ maxLen ∧ Own w B g e xs := by
  obtain ⟨h1, h2⟩ := h
  rcases h2 with ⟨_, h2⟩ | ⟨g, cap, cur, hv, hg, hh, hnc, hcm, hsz, htk⟩
  · omega
  refine ⟨g, cap, hv, hnc, hcm, hg, cur.toList.drop (n * size), ?_⟩
  rw [← htk, List.take_append_drop]
  simpa using hh
end

section
variable {P : Program} (w : World)
/-- append of a slice that reads as 'news' (nil, empty or not) onto a row of the call's own. -/
theorem run_app (base : Nat) (t ty e : TypeId) (i : TypeInfo) (z : Value) (size bytes : Nat) (ht : P.underlying t = some (.slice e)) (hi : P.info? e = some i) (hz : i.zero = some z)
    (hsize : i.size = size) (hby : i.bytes = bytes) (hzs : z.cells.size = size) (hsz : 0 < size) (v : Value) (n : Nat) (xs : List Value) (hown : w.ownsRow base e size v n xs)
    (B : Nat) (A : Option Addr) (m c : Nat) (news : List Value) (hl : news.length = m * size) (hr : Rd w B A news) (h1 : ∀ u ∈ news, u.oneCell' = true)
    (h63 : n + m ≤ maxLen) (hbytes : (n + m) * bytes ≤ 140737488355328) (hbase : base ≤ w.heap.size) :
    ∃ v' w', (Builtin.append_ #[t, t] ty #[v, .slice A m c]).run P w = .ok v' w' ∧ w'.ownsRow base e size v' (n + m) (xs ++ news) ∧ w.grownBy w' v.ownBlock ∧
      (v'.ownBlock = v.ownBlock ∨ v'.ownBlock = some w.heap.size) := by
  cases A with
  | some ad =>
    obtain ⟨v', w', r1, r2, r3, _, r5⟩ := run_append_own_at (P := P) w base t ty e i z size bytes ht hi hz hsize hby hzs hsz v n xs hown ad m c news hl
      (fun j u hu => by obtain ⟨_, h, _, hc⟩ := hr j u hu; cases h; exact hc) h1 h63 hbytes hbase
    exact ⟨v', w', r1, r2, r3, r5⟩
  | none =>
    have hn : news = [] := by
      cases news with
      | nil => rfl
      | cons u r => obtain ⟨_, h, _⟩ := hr 0 u rfl; cases h
    subst hn
    have hm : m = 0 := by
      rcases Nat.eq_zero_or_pos m with h | h
      · exact h
      have := Nat.mul_pos h hsz; simp at hl; omega
    subst hm
    refine ⟨v, w, ?_, by simpa using hown, World.grownBy.refl w _, .inl rfl⟩
    rcases hown.2 with ⟨rfl, rfl⟩ | ⟨g, cap, cur, rfl, _, _, hnc, _⟩
    · simp [Builtin.append_, run_underlying ht, sizeOf, typeInfo, hi, Builtin.lenOf, Builtin.firstCells]
    simp [Builtin.append_, run_underlying ht, sizeOf, typeInfo, hi, Builtin.lenOf, Builtin.firstCells, hnc, storeCells]
theorem wpList_app {ops : Array Oper} {rest : List Oper} {o : Oper} {a : Act} {Q : Exit → Act → World → Prop} (hgd : o.guard = none) (s x : Operand) (t : TypeId)
    (ho : o.op = .call { callee := .builtin .append, args := #[s, x], argTypes := #[t, t] })
    (base : Nat) (e : TypeId) (i : TypeInfo) (z : Value) (size bytes : Nat) (ht : P.underlying t = some (.slice e)) (hi : P.info? e = some i) (hz : i.zero = some z)
    (hsize : i.size = size) (hby : i.bytes = bytes) (hzs : z.cells.size = size) (hsz : 0 < size)
    (v : Value) (n : Nat) (xs : List Value) (hs : a.eval s = v) (hown : w.ownsRow base e size v n xs)
    (B : Nat) (A : Option Addr) (m c : Nat) (news : List Value) (hx : a.eval x = .slice A m c) (hl : news.length = m * size) (hr : Rd w B A news) (h1 : ∀ u ∈ news, u.oneCell' = true)
    (h63 : n + m ≤ maxLen) (hbytes : (n + m) * bytes ≤ 140737488355328) (hbase : base ≤ w.heap.size)
    (h : ∀ v' w', w'.ownsRow base e size v' (n + m) (xs ++ news) → w.grownBy w' v.ownBlock → (v'.ownBlock = v.ownBlock ∨ v'.ownBlock = some w.heap.size) → wpList P ops Q rest (a.put o.dst v') w') :
    wpList P ops Q (o :: rest) a w :=
  wpList_plain hgd fun K hK => by
    obtain ⟨v', w', hrun, h2, h3, h4⟩ := run_app (P := P) w base t o.type e i z size bytes ht hi hz hsize hby hzs hsz v n xs hown B A m c news hl hr h1 h63 hbytes hbase
    unfold Oper.wp execOp
    simp only [ho, resolve, invoke, builtin, Sem.run_bind, Sem.run_pure, Result.andThen_ok, List.map_toArray, List.map_cons, List.map_nil, hs, hx, hrun]
    exact hK _ _ (h v' w' h2 h3 h4)
/-- .. where something is there in the end: the slice is written out. -/
theorem wpList_app1 {ops : Array Oper} {rest : List Oper} {o : Oper} {a : Act} {Q : Exit → Act → World → Prop} (hgd : o.guard = none) (s x : Operand) (t : TypeId)
    (ho : o.op = .call { callee := .builtin .append, args := #[s, x], argTypes := #[t, t] })
    (base : Nat) (e : TypeId) (i : TypeInfo) (z : Value) (size bytes : Nat) (ht : P.underlying t = some (.slice e)) (hi : P.info? e = some i) (hz : i.zero = some z)
    (hsize : i.size = size) (hby : i.bytes = bytes) (hzs : z.cells.size = size) (hsz : 0 < size)
    (v : Value) (n : Nat) (xs : List Value) (hs : a.eval s = v) (hown : w.ownsRow base e size v n xs)
    (B : Nat) (A : Option Addr) (m c : Nat) (news : List Value) (hx : a.eval x = .slice A m c) (hl : news.length = m * size) (hr : Rd w B A news) (h1 : ∀ u ∈ news, u.oneCell' = true)
    (h63 : n + m ≤ maxLen) (hbytes : (n + m) * bytes ≤ 140737488355328) (hbase : base ≤ w.heap.size) (hpos : 0 < n + m)
    (h : ∀ g cap w', Own w' base g e (xs ++ news) → n + m ≤ cap → cap ≤ maxLen → w'.ownsRow base e size (.slice (some ⟨g, 0, none⟩) (n + m) cap) (n + m) (xs ++ news) → w.grownBy w' v.ownBlock → (some g = v.ownBlock ∨ g = w.heap.size) →
      wpList P ops Q rest (a.put o.dst (.slice (some ⟨g, 0, none⟩) (n + m) cap)) w') :
    wpList P ops Q (o :: rest) a w :=
  wpList_app w hgd s x t ho base e i z size bytes ht hi hz hsize hby hzs hsz v n xs hs hown B A m c news hx hl hr h1 h63 hbytes hbase fun v' w' r1 r2 r3 => by
    obtain ⟨g, cap, hv, h1, h2, h3⟩ := Own.of_row r1 hpos
    subst hv
    refine h g cap w' h3 h1 h2 r1 r2 ?_
    rcases r3 with r3 | r3
    · left; exact r3
    right; simpa [Value.ownBlock] using r3
end
/-- A new row reads as what it was made of. -/
theorem rd_new (w : World) (ar : Array Value) (t : TypeId) : Rd (w.alloc (.cells ar t)) (w.heap.size + 1) (some ⟨w.heap.size, 0, none⟩) ar.toList := by
  intro j u hj
  refine ⟨_, rfl, by simp, ?_⟩
  have e : (⟨w.heap.size, 0, none⟩ : Addr).add j = ⟨w.heap.size, j, none⟩ := by unfold Addr.add; split <;> simp_all
  rw [e, World.cell?_alloc_new]
  simpa using hj
theorem own_empty (w : World) (B : Nat) (t : TypeId) (size : Nat) (hB : B ≤ w.heap.size) : (w.alloc (.cells #[] t)).ownsRow B t size (.slice (some ⟨w.heap.size, 0, none⟩) 0 0) 0 [] :=
  ⟨by simp, .inr ⟨w.heap.size, 0, #[], rfl, hB, heap_alloc_new w _, Nat.le_refl _, Nat.zero_le _, by simp, by simp⟩⟩
end Go.Proofs.YtmhlgbpgdhhfnaaGreat
/-
  A region that draws its order and ENDS IN A STORE TO A CELL THAT IT LOADS: a condition S on the world is asked behind every operation BUT NUMBER m (the store, which waits for all the loads). A load that S foretells is taken first. No program in sight.
-/
namespace Go.Proofs.YtmhlgbpgdhhfnaaGreat
open Go.RowKit Go.Maps

section
variable {P : Program} {md : Region.Mode} {ops : Array Oper} {Q : Exit → Act → World → Prop} {S : World → Prop} {m : Nat}
/-- Whatever comes up: S behind it, unless it is number m. -/
def WT (P : Program) (md : Region.Mode) (ops : Array Oper) (Q : Exit → Act → World → Prop) (S : World → Prop) (m : Nat) : Nat → Array Bool → Act → World → Prop
  | 0, done, a, w => Region.ready md ops done = [] ∧ Q .normal a w
  | f + 1, done, a, w => (Region.ready md ops done = [] → Q .normal a w) ∧
      ∀ j ∈ Region.ready md ops done, wpOp P ops Q j (fun a' w' => (j ≠ m → S w') ∧ WT P md ops Q S m f (done.setIfInBounds j true) a' w') a w
theorem WT.any : ∀ (f : Nat) (done : Array Bool) (a : Act) (w : World), WT P md ops Q S m f done a w → wpAny P md ops Q f done a w
  | 0, _, _, _, h => h
  | f + 1, _, _, _, h => ⟨h.1, fun j hj => wpOp_mono (fun a' w' q => WT.any f _ a' w' q.2) (h.2 j hj)⟩
theorem wt_waits {i : Nat} (hw : Region.waitsFor md ops m i = true) {done : Array Bool} (h : m ∈ Region.ready md ops done) : done.getD i false = true := by
  obtain ⟨om, h1, e, he, hb, hon⟩ := Region.waitsFor_spec hw
  obtain ⟨_, o, ho, hall⟩ := mem_ready.1 h
  rw [h1] at ho
  cases ho
  rw [← hon]
  exact hall e he hb
theorem WT.first {i : Nat} {oi : Oper} {v : Value} (hi : ops[i]? = some oi) (hs : Region.noSelect ops = true) (hw : Region.waitsFor md ops m i = true)
    (hQ : ∀ c a w, Q (.panic c) (a.put oi.dst v) w → Q (.panic c) a w) : ∀ (f : Nat) (done : Array Bool) (a : Act) (w : World),
      (∀ j oj, ops[j]? = some oj → j ≠ i → done.getD j true = false → (∀ e ∈ oj.after, Region.binds md e = true → e.on ≠ i) → oi.apart ops oj = true) →
      i ∈ Region.ready md ops done → YieldsIf P ops S oi v a → S w → WT P md ops Q S m f (done.setIfInBounds i true) (a.put oi.dst v) w → WT P md ops Q S m (f + 1) done a w
  | 0, done, a, w, _, hr, hy, hS, H => by
    refine ⟨fun h => (by rw [h] at hr; cases hr), fun j hj => ?_⟩
    rcases Classical.em (j = i) with rfl | hji
    · exact hy.wpOp hi hS ⟨fun _ => hS, H⟩
    have h1 := ready_mono hj hji
    rw [H.1] at h1
    cases h1
  | f + 1, done, a, w, hfree, hr, hy, hS, H => by
    refine ⟨fun h => (by rw [h] at hr; cases hr), fun j hj => ?_⟩
    rcases Classical.em (j = i) with rfl | hji
    · exact hy.wpOp hi hS ⟨fun _ => hS, H⟩
    have hpend : done.getD i true = false := (mem_ready.1 hr).1
    have hnot : done.getD i false ≠ true := fun h => by
      rcases Nat.lt_or_ge i done.size with hlt | hge
      · simp [hlt] at hpend h; rw [hpend] at h; cases h
      simp [Array.getElem?_eq_none hge] at h
    have hjm : j ≠ m := fun e => by subst e; exact hnot (wt_waits hw hj)
    obtain ⟨hjun, oj, hoj, hall⟩ := mem_ready.1 hj
    have hno : ∀ e ∈ oj.after, Region.binds md e = true → e.on ≠ i := fun e he hb heq => hnot (by rw [← heq]; exact hall e he hb)
    have h2 := wpOp_putIf hoj (hfree j oj hoj hji hjun hno) (fun cs b => Region.noSelect_spec hs i oi cs b hi) (fun cs b => Region.noSelect_spec hs j oj cs b hoj) hQ hy (H.2 j (ready_mono hj hji))
    refine wpOp_mono (fun a' w' q => ⟨q.2.1, WT.first hi hs hw hQ f (done.setIfInBounds j true) a' w' (fun k ok hk hki hun hn => hfree k ok hk hki ?_ hn) (ready_mono hr (Ne.symm hji)) q.1 (q.2.1 hjm) ?_⟩) h2
    · rcases Classical.em (j = k) with rfl | hjk
      · exact hjun
      rw [getD_set_ne true hjk] at hun; exact hun
    rw [Array.setIfInBounds_comm _ _ hji]
    exact q.2.2

/-- The beginning. -/
theorem WT.start {id : Nat} {a : Act} {w : World} (S : World → Prop) (m : Nat) (hm : P.follows .mixedOrders = true) (h : WT P .any ops Q S m ops.size (Array.replicate ops.size false) a w.drew) : (Code.region id ops true).wp P Q a w :=
  wp_region_any hm (WT.any _ _ _ _ h)
/-- Number i is taken first. -/
theorem WT.take (i : Nat) {oi : Oper} {v : Value} {f : Nat} {done : Array Bool} {a : Act} {w : World} (hi' : ops.toList[i]? = some oi) (hs : Region.noSelect ops = true) (hw : Region.waitsFor md ops m i = true) (hf : Region.free md ops done i = true) (hr : (Region.ready md ops done).contains i = true)
    (hQ : ∀ c a w, Q (.panic c) (a.put oi.dst v) w → Q (.panic c) a w) (hy : YieldsIf P ops S oi v a) (hS : S w)
    (h : WT P md ops Q S m f (done.setIfInBounds i true) (a.put oi.dst v) w) : WT P md ops Q S m (f + 1) done a w :=
  have hi : ops[i]? = some oi := by rw [← hi', Array.getElem?_toList]
  WT.first hi hs hw hQ f done a w (Region.free_spec hi hf) (by simpa using hr) hy hS h
/-- One alone may come up, and it is not number m. -/
theorem WT.step (i : Nat) {o : Oper} {f : Nat} {done : Array Bool} {a : Act} {w : World} (ho' : ops.toList[i]? = some o) (hr : Region.ready md ops done = [i]) (hne : i ≠ m)
    (h : ∀ K : Act → World → Prop, Hid (∀ a w, S w → WT P md ops Q S m f (done.setIfInBounds i true) a w → K a w) → if Region.wanted o (yielded ops a.tmps) = true then Oper.wp P o a w K Q else K (a.put o.dst undef) w) : WT P md ops Q S m (f + 1) done a w := by
  have ho : ops[i]? = some o := by rw [← ho', Array.getElem?_toList]
  refine ⟨fun e => (by rw [hr] at e; cases e), fun j hj => ?_⟩
  rw [hr] at hj
  obtain rfl : j = i := by simpa using hj
  exact wpOp_step ho fun K hK => h K (Lib.hid fun a w h1 h2 => hK a w ⟨fun _ => h1, h2⟩)
/-- Number m comes up alone. -/
theorem WT.last (i : Nat) {o : Oper} {f : Nat} {done : Array Bool} {a : Act} {w : World} (ho' : ops.toList[i]? = some o) (hr : Region.ready md ops done = [i]) (he : i = m)
    (h : ∀ K : Act → World → Prop, Hid (∀ a w, WT P md ops Q S m f (done.setIfInBounds i true) a w → K a w) → if Region.wanted o (yielded ops a.tmps) = true then Oper.wp P o a w K Q else K (a.put o.dst undef) w) : WT P md ops Q S m (f + 1) done a w := by
  have ho : ops[i]? = some o := by rw [← ho', Array.getElem?_toList]
  refine ⟨fun e => (by rw [hr] at e; cases e), fun j hj => ?_⟩
  rw [hr] at hj
  obtain rfl : j = i := by simpa using hj
  exact wpOp_step ho fun K hK => h K (Lib.hid fun a w h2 => hK a w ⟨fun hn => absurd he hn, h2⟩)
theorem WT.done {f : Nat} {done : Array Bool} {a : Act} {w : World} (hr : Region.ready md ops done = []) (h : Q .normal a w) : WT P md ops Q S m f done a w := by
  cases f with
  | zero => exact ⟨hr, h⟩
  | succ f => exact ⟨fun _ => h, by rw [hr]; simp⟩
end
end Go.Proofs.YtmhlgbpgdhhfnaaGreat
namespace Go.Proofs.YtmhlgbpgdhhfnaaGreat

/-! A region that draws its order, reads and quiet calls ahead of a tail in the order of the text, inside the wide fence. No program in sight. -/
/-- The wide fence, written out. -/
abbrev Wf : Fence := { fn := fun _ => True, depth := none, alive := false }
theorem wfc {n : Nat} {P : Program} {f : FuncId} {args : Array Value} {w : World} {R : Ending → World → Prop} (hc : Calls P f args w R) : CallsIn Wf n P f args w R := callsIn_wide.2 hc
theorem cfw {n : Nat} {P : Program} {f : FuncId} {args : Array Value} {w : World} {R : Ending → World → Prop} (hc : CallsIn Wf n P f args w R) : Calls P f args w R := callsIn_wide.1 hc

section
variable {P : Program} {ops : Array Oper} {md : Region.Mode} {w : World} {m : Nat}
end
end Go.Proofs.YtmhlgbpgdhhfnaaGreat
