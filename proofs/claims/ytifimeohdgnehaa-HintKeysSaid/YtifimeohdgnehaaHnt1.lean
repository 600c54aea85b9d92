import Derived.Test.YtifimeohdgnehaaOct8
import Derived.Maps.OwnSet
namespace Go.Proofs.Ytifimeohdgnehaa
open Go.RowKit Go.Maps

/-- A hint's entry. -/
structure HE where
  key : ByteArray
  off : Int
  time : Int
  dead : Bool
  pos : Int
  len : Int
def HE.zero : HE := ⟨ByteArray.empty, 0, 0, false, 0, 0⟩
def six (e : HE) : List Value := [.string e.key, .int .i64 e.off, .int .i64 e.time, .bool e.dead, .int .i64 e.pos, .int .i64 e.len]
theorem six_len (l : List HE) : (l.flatMap six).length = l.length * 6 := by
  induction l with
  | nil => rfl
  | cons p l ih => simp only [List.flatMap_cons, List.length_append, ih, List.length_cons]; show 6 + _ = _; omega
theorem six_get (l : List HE) (i j : Nat) (hi : i < l.length) (hj : j < 6) : (l.flatMap six)[i * 6 + j]? = (six l[i])[j]? := by
  induction l generalizing i with
  | nil => simp at hi
  | cons p l ih =>
    have hl : (six p).length = 6 := rfl
    cases i with
    | zero => simp only [List.flatMap_cons, List.getElem_cons_zero, Nat.zero_mul, Nat.zero_add]; rw [List.getElem?_append_left (by omega)]
    | succ i =>
      simp only [List.flatMap_cons, List.getElem_cons_succ]
      rw [List.getElem?_append_right (by omega), hl, show (i + 1) * 6 + j - 6 = i * 6 + j by omega]
      exact ih i (by simpa using hi)
/-- A row of entries: the i-th. -/
theorem Rd.six_ {w : World} {B : Nat} {A : Option Addr} {l : List HE} (h : Rd w B A (l.flatMap six)) {i : Nat} (hi : i < l.length) :
    ∃ ad : Addr, A = some ad ∧ ad.block < B ∧ w.cell? (ad.add (i * 6)) = some (.string l[i].key) ∧
      w.cell? ⟨(ad.add (i * 6)).block, (ad.add (i * 6)).off + 1, none⟩ = some (.int .i64 l[i].off) ∧ w.cell? ⟨(ad.add (i * 6)).block, (ad.add (i * 6)).off + 2, none⟩ = some (.int .i64 l[i].time) ∧
      w.cell? ⟨(ad.add (i * 6)).block, (ad.add (i * 6)).off + 3, none⟩ = some (.bool l[i].dead) ∧ w.cell? ⟨(ad.add (i * 6)).block, (ad.add (i * 6)).off + 4, none⟩ = some (.int .i64 l[i].pos) ∧
      w.cell? ⟨(ad.add (i * 6)).block, (ad.add (i * 6)).off + 5, none⟩ = some (.int .i64 l[i].len) := by
  obtain ⟨ad, rfl, hb, c0⟩ := h (i * 6) (.string l[i].key) (by simpa [six] using six_get l i 0 hi (by omega))
  have g : ∀ (j : Nat) (v : Value), j < 6 → (six l[i])[j]? = some v → w.cell? ((ad.add (i * 6)).add j) = some v := by
    intro j v hj hv
    obtain ⟨a2, e2, _, c2⟩ := h (i * 6 + j) v ((six_get l i j hi hj).trans hv)
    cases e2
    rw [← add_add'] at c2
    exact c2
  have p : ∀ (a : Addr) (j : Nat), 0 < j → a.add j = ⟨a.block, a.off + j, none⟩ := by
    intro a j hj
    unfold Addr.add
    rw [if_neg (by omega)]
  refine ⟨ad, rfl, hb, c0, ?_, ?_, ?_, ?_, ?_⟩
  · rw [← p _ 1 (by omega)]; exact g 1 _ (by omega) rfl
  · rw [← p _ 2 (by omega)]; exact g 2 _ (by omega) rfl
  · rw [← p _ 3 (by omega)]; exact g 3 _ (by omega) rfl
  · rw [← p _ 4 (by omega)]; exact g 4 _ (by omega) rfl
  · rw [← p _ 5 (by omega)]; exact g 5 _ (by omega) rfl

/-- May the entry stand there? -/
def EntR (off en size : Int) (e : HE) : Prop := 1 ≤ e.key.size ∧ e.key.size ≤ 64 ∧ off < e.off ∧ e.off < 1099511627776 ∧ 0 ≤ e.time ∧ e.time < 1125899906842624 ∧ 14 ≤ e.len ∧ e.len ≤ 1124 ∧ en ≤ e.pos ∧ e.pos + e.len ≤ size - 17
instance (off en size : Int) (e : HE) : Decidable (EntR off en size e) := by unfold EntR; infer_instance
def nth (l : List HE) (i : Nat) : HE := l.getD i HE.zero
def offAt (l : List HE) : Nat → Int
  | 0 => -1
  | i + 1 => (nth l i).off
def endAt (l : List HE) : Nat → Int
  | 0 => 21
  | i + 1 => (nth l i).pos + (nth l i).len
def HintR (seg size : Int) (l : List HE) : Prop :=
  0 ≤ seg ∧ seg < 1073741824 ∧ 38 ≤ size ∧ size ≤ 65536 ∧ (∀ i, i < l.length → EntR (offAt l i) (endAt l i) size (nth l i)) ∧ ∀ i k, i < l.length → k < i → (nth l k).key ≠ (nth l i).key

def sixV (e : HE) : Value := .agg #[.string e.key, .int .i64 e.off, .int .i64 e.time, .bool e.dead, .int .i64 e.pos, .int .i64 e.len]

set_option maxRecDepth 100000 in
set_option maxHeartbeats 2000000 in
theorem refEntry (e : HE) (off en size : Int) (w : World) (h1 : 38 ≤ size) (h2 : size ≤ 65536) (h3 : 0 ≤ en) :
    Calls Try.prog 50 #[sixV e, .int .i64 off, .int .i64 en, .int .i64 size] w fun r w' => r = .returned (.bool (decide (EntR off en size e))) ∧ Below w.heap.size w w' := by
  obtain ⟨key, eo, et, ed, ep, el⟩ := e
  unfold sixV
  simp only
  go_enter Try.func50, Try.ntmps50
  go_wp2
  all_goals go_ret
  all_goals refine ⟨ret_bool ?_, (Below.refl _ _).alloc (Nat.le_refl _) _⟩
  all_goals first
    | (symm; apply decide_eq_false; unfold EntR; simp only; omega)
    | (apply decide_eq_decide.2; unfold EntR; simp only; omega)

/-- The two loops of Right. -/
def hV (seg size : Int) (v : Value) : Value := .agg #[.int .i64 seg, .int .i64 size, v]
theorem nth_eq {l : List HE} {i : Nat} (hi : i < l.length) : nth l i = l[i] := by simp [nth, hi]
end Go.Proofs.Ytifimeohdgnehaa
