import Derived.WalkKit
import Derived.WalkSpells
import Derived.WalkLawsBesides
import Derived.Deep.QuietTactic
import Derived.BigQuiet
import Derived.Lib.Hide
import Derived.Maps.OwnOps
import Derived.Maps.OwnSet
import Derived.Maps.Views
import Derived.Maps.Keyed
/-
  Words that all texts of this seat share: a slice that reads as a list of cells; a map from int to int as a function. No program in sight.
-/
namespace Go.Proofs.YtdeaefbjddodjaaGreatDoor
open Go.RowKit Go.Maps

theorem add_block (a : Addr) (n : Nat) : (a.add n).block = a.block := by unfold Addr.add; split <;> rfl
theorem add_add' (a : Addr) (i j : Nat) : (a.add i).add j = a.add (i + j) := by
  unfold Addr.add
  by_cases hi : i = 0 <;> by_cases hj : j = 0 <;> simp [hi, hj, Nat.add_assoc]

/-- The cells xs lie behind the address A, all below block B. -/
def Rd (w : World) (B : Nat) (A : Option Addr) (xs : List Value) : Prop :=
  ∀ (j : Nat) (u : Value), xs[j]? = some u → ∃ ad : Addr, A = some ad ∧ ad.block < B ∧ w.cell? (ad.add j) = some u

section
variable {w w' : World} {B B' : Nat} {A : Option Addr} {xs : List Value}
theorem Rd.nil (w : World) (B : Nat) (A : Option Addr) : Rd w B A [] := by intro j u h; simp at h
theorem Rd.keep (h : Rd w B A xs) (hk : ∀ p : Addr, p.block < B → w'.cell? p = w.cell? p) : Rd w' B A xs := by
  intro j u hj
  obtain ⟨ad, rfl, hb, hc⟩ := h j u hj
  exact ⟨ad, rfl, hb, (hk _ (by rw [add_block]; exact hb)).trans hc⟩
theorem Rd.below (h : Rd w B A xs) (hb : Below B w w') : Rd w' B A xs := h.keep fun _ hp => hb.cell hp
theorem Rd.mono (h : Rd w B A xs) (hB : B ≤ B') : Rd w B' A xs := by
  intro j u hj
  obtain ⟨ad, rfl, hb, hc⟩ := h j u hj
  exact ⟨ad, rfl, by omega, hc⟩
theorem Rd.some_ (h : Rd w B A xs) (hn : 0 < xs.length) : ∃ ad : Addr, A = some ad ∧ ad.block < B ∧ ∀ (j : Nat) (u : Value), xs[j]? = some u → w.cell? (ad.add j) = some u := by
  obtain ⟨ad, rfl, hb, _⟩ := h 0 _ (List.getElem?_eq_getElem hn)
  refine ⟨ad, rfl, hb, fun j u hj => ?_⟩
  obtain ⟨ad', he, _, hc⟩ := h j u hj
  cases he
  exact hc
/-- A row of ints: the k-th. -/
theorem Rd.int {k : IntKind} {l : List Int} (h : Rd w B A (l.map (Value.int k))) {i : Nat} (hi : i < l.length) :
    ∃ ad : Addr, A = some ad ∧ ad.block < B ∧ w.cell? (ad.add i) = some (.int k l[i]) := by
  obtain ⟨ad, rfl, hb, hc⟩ := h i (.int k l[i]) (by simp [hi])
  exact ⟨ad, rfl, hb, hc⟩
/-- A row of triples of ints: the k-th. -/
def tri (p : Int × Int × Int) : List Value := [.int .i64 p.1, .int .i64 p.2.1, .int .i64 p.2.2]
theorem tri_get (l : List (Int × Int × Int)) (i : Nat) (hi : i < l.length) :
    (l.flatMap tri)[i * 3]? = some (.int .i64 l[i].1) ∧ (l.flatMap tri)[i * 3 + 1]? = some (.int .i64 l[i].2.1) ∧ (l.flatMap tri)[i * 3 + 2]? = some (.int .i64 l[i].2.2) := by
  induction l generalizing i with
  | nil => simp at hi
  | cons p l ih =>
    cases i with
    | zero => simp [tri]
    | succ i =>
      have := ih i (by simpa using hi)
      have e : (i + 1) * 3 = 3 + i * 3 := by omega
      simp only [List.flatMap_cons, e, List.getElem_cons_succ]
      have hl : (tri p).length = 3 := rfl
      refine ⟨?_, ?_, ?_⟩
      · rw [List.getElem?_append_right (by omega), hl, show 3 + i * 3 - 3 = i * 3 by omega]; exact this.1
      · rw [List.getElem?_append_right (by omega), hl, show 3 + i * 3 + 1 - 3 = i * 3 + 1 by omega]; exact this.2.1
      · rw [List.getElem?_append_right (by omega), hl, show 3 + i * 3 + 2 - 3 = i * 3 + 2 by omega]; exact this.2.2
theorem tri_len (l : List (Int × Int × Int)) : (l.flatMap tri).length = l.length * 3 := by
  induction l with
  | nil => rfl
  | cons p l ih => simp only [List.flatMap_cons, List.length_append, ih, List.length_cons]; show 3 + _ = _; omega
theorem Rd.tri_ {l : List (Int × Int × Int)} (h : Rd w B A (l.flatMap tri)) {i : Nat} (hi : i < l.length) :
    ∃ ad : Addr, A = some ad ∧ ad.block < B ∧ w.cell? (ad.add (i * 3)) = some (.int .i64 l[i].1) ∧
      w.cell? ⟨(ad.add (i * 3)).block, (ad.add (i * 3)).off + 1, none⟩ = some (.int .i64 l[i].2.1) ∧ w.cell? ⟨(ad.add (i * 3)).block, (ad.add (i * 3)).off + 2, none⟩ = some (.int .i64 l[i].2.2) := by
  obtain ⟨h1, h2, h3⟩ := tri_get l i hi
  obtain ⟨ad, rfl, hb, c1⟩ := h _ _ h1
  obtain ⟨a2, e2, _, c2⟩ := h _ _ h2
  obtain ⟨a3, e3, _, c3⟩ := h _ _ h3
  cases e2; cases e3
  rw [← add_add'] at c2 c3
  exact ⟨ad, rfl, hb, c1, c2, c3⟩
end

theorem below_drewN {B : Nat} {a w : World} (h : Below B a w) (n : Nat) : Below B a (w.drewN n) := ⟨h.os, h.tape, h.output, h.size, h.block⟩
theorem ret_bool {a b : Bool} (h : a = b) : Ending.returned (.bool a) = .returned (.bool b) := by rw [h]
theorem ret_int {k : IntKind} {a b : Int} (h : a = b) : Ending.returned (.int k a) = .returned (.int k b) := by rw [h]

/-! Maps from int to int. -/
section
variable {P : Program} {K E : TypeId}
/-- Block b is a map of at most n entries that tells f of each int (0 where it has none). -/
def IMap (P : Program) (K E : TypeId) (w : World) (b n : Nat) (f : Int → Int) : Prop :=
  ∃ D : DataW Unit, w.ownsMap P K (plainElem P E) b n D ∧ IsMap D ∧ ∀ x : Int, (Lit.int .i64 x).wf = true → D.atKey (.int .i64 x) (.lit (.int .i64 0)) = .lit (.int .i64 (f x))
theorem IMap.made (w : World) : IMap P K E (w.alloc (.map #[] 0)) w.heap.size 0 fun _ => 0 :=
  ⟨.map [], World.ownsMap_made _ _ _ _, isMap_empty, fun _ _ => rfl⟩
theorem IMap.kept {w w' : World} {b n : Nat} {f : Int → Int} (h : IMap P K E w b n f) {row : Option Nat} (hg : w.grownBy w' row) (hne : some b ≠ row) : IMap P K E w' b n f :=
  let ⟨D, h1, h2, h3⟩ := h; ⟨D, h1.kept hg hne, h2, h3⟩
theorem IMap.lt {w : World} {b n : Nat} {f : Int → Int} (h : IMap P K E w b n f) : b < w.heap.size := let ⟨_, h1, _⟩ := h; h1.lt
theorem IMap.look {w : World} {b n : Nat} {f : Int → Int} (h : IMap P K E w b n f) (hk : P.underlying K = some (.int .i64)) (he : P.underlying E = some (.int .i64)) {T : TypeId} (ht : P.underlying T = some (.map K E))
    (hz : (zeroValue E).run P w = .ok (.int .i64 0) w) (x : Int) (hx : (Lit.int .i64 x).wf = true) : (Instr.lookup T (.map (some b)) (.int .i64 x) false).run P w = .ok (.int .i64 (f x)) w := by
  obtain ⟨D, h1, _, h3⟩ := h
  obtain ⟨c, hrun, hat, _⟩ := h1.lookup_int (int_keyed hk) ht he hz (keyOf_int_mk hk hx)
  have := h3 x hx
  rw [hat] at this
  injection this with this
  injection this with _ this
  rw [hrun, this]
theorem IMap.store {w : World} {b n : Nat} {f : Int → Int} (h : IMap P K E w b n f) (hk : P.underlying K = some (.int .i64)) (he : P.underlying E = some (.int .i64)) {T : TypeId} (ht : P.underlying T = some (.map K E))
    (hn : n < maxLen) (x v : Int) (hx : (Lit.int .i64 x).wf = true) (hv : (Lit.int .i64 v).wf = true) :
    ∃ w', (Instr.mapUpdate T (.map (some b)) (.int .i64 x) (.int .i64 v)).run P w = .ok () w' ∧ IMap P K E w' b (n + 1) (fun y => if y = x then v else f y) ∧ w.grownBy w' (some b) := by
  obtain ⟨D, h1, h2, h3⟩ := h
  obtain ⟨w', hrun, r1, r2⟩ := h1.update (int_keyed hk) ht hn (keyOf_int_mk hk hx) (plainElem_int he hv)
  refine ⟨w', hrun, ⟨_, r1, h2.put _ _, fun y hy => ?_⟩, r2⟩
  by_cases hyx : y = x
  · subst hyx
    show _ = DataW.lit (.int .i64 (if y = y then v else f y))
    rw [if_pos rfl]
    exact atKey_put_same h2 (by trivial) _ _
  · show _ = DataW.lit (.int .i64 (if y = x then v else f y))
    rw [if_neg hyx, atKey_put_other (by simpa using hyx)]
    exact h3 y hy
theorem wpList_mapStore (w : World) {ops : Array Oper} {rest : List Oper} {o : Oper} {a : Act} {Q : Exit → Act → World → Prop}
    (hg : o.guard = none) (m x v : Operand) (T : TypeId) (hop : o.op = Op.mapUpdate T m x v)
    (hk : P.underlying K = some (.int .i64)) (he : P.underlying E = some (.int .i64)) (ht : P.underlying T = some (.map K E)) (b n : Nat) (f : Int → Int)
    (hm : a.eval m = .map (some b)) (h : IMap P K E w b n f) (hn : n < maxLen) (key val : Int) (hx : a.eval x = .int .i64 key) (hv : a.eval v = .int .i64 val)
    (hkw : (Lit.int .i64 key).wf = true) (hvw : (Lit.int .i64 val).wf = true)
    (hK : ∀ w', IMap P K E w' b (n + 1) (fun y => if y = key then val else f y) → w.grownBy w' (some b) → wpList P ops Q rest (a.put o.dst undef) w') :
    wpList P ops Q (o :: rest) a w := by
  refine wpList_plain hg fun K' hK' => ?_
  obtain ⟨w', hrun, r1, r2⟩ := h.store hk he ht hn key val hkw hvw
  unfold Oper.wp
  simp [execOp, hop, hm, hx, hv, hrun, Result.andThen]
  exact hK' _ _ (hK w' r1 r2)
end

theorem wf_of {x : Int} (h : -9223372036854775808 ≤ x ∧ x ≤ 9223372036854775807) : (Lit.int .i64 x).wf = true := by
  simp [Lit.wf, IntKind.min, IntKind.max, IntKind.signed, IntKind.bits]; omega
end Go.Proofs.YtdeaefbjddodjaaGreatDoor
