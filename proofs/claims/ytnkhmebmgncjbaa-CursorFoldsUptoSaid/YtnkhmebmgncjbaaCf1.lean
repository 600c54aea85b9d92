import Derived.Test.YtnkhmebmgncjbaaCmpR
import Derived.Test.YtnkhmebmgncjbaaMem
import Derived.Maps.RangeWalk
import Derived.Maps.OwnSet
import Derived.Sort.KeysCollected
import Derived.StringKeys
namespace Go.Proofs.Ytnkhmebmgncjbaa
open Go.RowKit Go.Maps

/-- A pair: a key with what was last said of it. -/
structure PA where
  key : ByteArray
  val : ByteArray
  off : Int
  time : Int
/-- A record. -/
structure RC where
  kind : Int
  off : Int
  time : Int
  pid : Int
  sq : Int
  key : ByteArray
  val : ByteArray
def p4 (p : PA) : List Value := [.string p.key, .string p.val, .int .i64 p.off, .int .i64 p.time]
def r7 (r : RC) : List Value := [.int .i64 r.kind, .int .i64 r.off, .int .i64 r.time, .int .i64 r.pid, .int .i64 r.sq, .string r.key, .string r.val]
def PA.v (p : PA) : Value := .agg #[.string p.key, .string p.val, .int .i64 p.off, .int .i64 p.time]
/-- Rows of m cells an item. -/
theorem flat_len {α : Type} (f : α → List Value) (m : Nat) (hf : ∀ a, (f a).length = m) (l : List α) : (l.flatMap f).length = l.length * m := by
  induction l with
  | nil => simp
  | cons p l ih => simp only [List.flatMap_cons, List.length_append, ih, List.length_cons, hf]; rw [Nat.add_mul]; omega
theorem flat_get {α : Type} (f : α → List Value) (m : Nat) (hf : ∀ a, (f a).length = m) (l : List α) (i j : Nat) (hi : i < l.length) (hj : j < m) : (l.flatMap f)[i * m + j]? = (f l[i])[j]? := by
  induction l generalizing i with
  | nil => simp at hi
  | cons p l ih =>
    cases i with
    | zero => simp only [List.flatMap_cons, List.getElem_cons_zero, Nat.zero_mul, Nat.zero_add]; rw [List.getElem?_append_left (by rw [hf]; exact hj)]
    | succ i =>
      simp only [List.flatMap_cons, List.getElem_cons_succ]
      rw [List.getElem?_append_right (by rw [hf, Nat.add_mul]; omega), hf, show (i + 1) * m + j - m = i * m + j by rw [Nat.add_mul]; omega]
      exact ih i (by simpa using hi)
theorem p4_len (l : List PA) : (l.flatMap p4).length = l.length * 4 := flat_len p4 4 (fun _ => rfl) l
theorem r7_len (l : List RC) : (l.flatMap r7).length = l.length * 7 := flat_len r7 7 (fun _ => rfl) l
theorem add_off (a : Addr) (j : Nat) (hj : 0 < j) : a.add j = ⟨a.block, a.off + j, none⟩ := by
  unfold Addr.add
  rw [if_neg (by omega)]
theorem rd_cells {α : Type} {f : α → List Value} {m : Nat} (hf : ∀ a, (f a).length = m) {w : World} {B : Nat} {A : Option Addr} {l : List α} (h : Rd w B A (l.flatMap f)) {i : Nat} (hi : i < l.length) (hm : 0 < m) :
    ∃ ad : Addr, A = some ad ∧ ad.block < B ∧ ∀ j v, (f l[i])[j]? = some v → w.cell? ((ad.add (i * m)).add j) = some v := by
  have h0 : ∃ v, (f l[i])[0]? = some v := ⟨_, List.getElem?_eq_getElem (by rw [hf]; exact hm)⟩
  obtain ⟨v0, hv0⟩ := h0
  obtain ⟨ad, rfl, hb, _⟩ := h (i * m + 0) v0 ((flat_get f m hf l i 0 hi hm).trans hv0)
  refine ⟨ad, rfl, hb, fun j v hv => ?_⟩
  have hj : j < m := by rw [← hf l[i]]; exact (List.getElem?_eq_some_iff.1 hv).1
  obtain ⟨a2, e2, _, c2⟩ := h (i * m + j) v ((flat_get f m hf l i j hi hj).trans hv)
  cases e2
  rw [add_add']
  exact c2
theorem Rd.p4_ {w : World} {B : Nat} {A : Option Addr} {l : List PA} (h : Rd w B A (l.flatMap p4)) {i : Nat} (hi : i < l.length) :
    ∃ ad : Addr, A = some ad ∧ ad.block < B ∧ w.cell? (ad.add (i * 4)) = some (.string l[i].key) ∧
      w.cell? ⟨(ad.add (i * 4)).block, (ad.add (i * 4)).off + 1, none⟩ = some (.string l[i].val) ∧ w.cell? ⟨(ad.add (i * 4)).block, (ad.add (i * 4)).off + 2, none⟩ = some (.int .i64 l[i].off) ∧
      w.cell? ⟨(ad.add (i * 4)).block, (ad.add (i * 4)).off + 3, none⟩ = some (.int .i64 l[i].time) := by
  obtain ⟨ad, rfl, hb, g⟩ := rd_cells (f := p4) (m := 4) (fun _ => rfl) h hi (by omega)
  refine ⟨ad, rfl, hb, ?_, ?_, ?_, ?_⟩
  · exact g 0 _ rfl
  · rw [← add_off _ 1 (by omega)]; exact g 1 _ rfl
  · rw [← add_off _ 2 (by omega)]; exact g 2 _ rfl
  · rw [← add_off _ 3 (by omega)]; exact g 3 _ rfl
theorem Rd.r7_ {w : World} {B : Nat} {A : Option Addr} {l : List RC} (h : Rd w B A (l.flatMap r7)) {i : Nat} (hi : i < l.length) :
    ∃ ad : Addr, A = some ad ∧ ad.block < B ∧ w.cell? (ad.add (i * 7)) = some (.int .i64 l[i].kind) ∧
      w.cell? ⟨(ad.add (i * 7)).block, (ad.add (i * 7)).off + 1, none⟩ = some (.int .i64 l[i].off) ∧ w.cell? ⟨(ad.add (i * 7)).block, (ad.add (i * 7)).off + 2, none⟩ = some (.int .i64 l[i].time) ∧
      w.cell? ⟨(ad.add (i * 7)).block, (ad.add (i * 7)).off + 3, none⟩ = some (.int .i64 l[i].pid) ∧ w.cell? ⟨(ad.add (i * 7)).block, (ad.add (i * 7)).off + 4, none⟩ = some (.int .i64 l[i].sq) ∧
      w.cell? ⟨(ad.add (i * 7)).block, (ad.add (i * 7)).off + 5, none⟩ = some (.string l[i].key) ∧ w.cell? ⟨(ad.add (i * 7)).block, (ad.add (i * 7)).off + 6, none⟩ = some (.string l[i].val) := by
  obtain ⟨ad, rfl, hb, g⟩ := rd_cells (f := r7) (m := 7) (fun _ => rfl) h hi (by omega)
  refine ⟨ad, rfl, hb, ?_, ?_, ?_, ?_, ?_, ?_, ?_⟩
  · exact g 0 _ rfl
  · rw [← add_off _ 1 (by omega)]; exact g 1 _ rfl
  · rw [← add_off _ 2 (by omega)]; exact g 2 _ rfl
  · rw [← add_off _ 3 (by omega)]; exact g 3 _ rfl
  · rw [← add_off _ 4 (by omega)]; exact g 4 _ rfl
  · rw [← add_off _ 5 (by omega)]; exact g 5 _ rfl
  · rw [← add_off _ 6 (by omega)]; exact g 6 _ rfl

theorem cmpB_trans : ∀ {a b c : List UInt8}, cmpB a b = -1 → cmpB b c = -1 → cmpB a c = -1
  | [], [], _, h, _ => by simp [cmpB] at h
  | [], _ :: _, [], _, h => by simp [cmpB] at h
  | [], _ :: _, _ :: _, _, _ => rfl
  | _ :: _, [], _, h, _ => by simp [cmpB] at h
  | _ :: _, _ :: _, [], _, h => by simp [cmpB] at h
  | x :: a, y :: b, z :: c, h1, h2 => by
    simp only [cmpB] at h1 h2 ⊢
    by_cases p1 : x.toNat < y.toNat
    · by_cases q1 : y.toNat < z.toNat
      · rw [if_pos (by omega)]
      · rw [if_neg q1] at h2
        by_cases q2 : z.toNat < y.toNat
        · rw [if_pos q2] at h2; cases h2
        · rw [if_pos (by omega)]
    · rw [if_neg p1] at h1
      by_cases p2 : y.toNat < x.toNat
      · rw [if_pos p2] at h1; cases h1
      · rw [if_neg p2] at h1
        by_cases q1 : y.toNat < z.toNat
        · rw [if_pos (by omega)]
        · rw [if_neg q1] at h2
          by_cases q2 : z.toNat < y.toNat
          · rw [if_pos q2] at h2; cases h2
          · rw [if_neg q2] at h2
            rw [if_neg (by omega), if_neg (by omega)]
            exact cmpB_trans h1 h2
/-- The order of two keys. -/
def ck (a b : ByteArray) : Int := cmpB a.data.toList b.data.toList
/-- The list but for a key. -/
def woL (k : ByteArray) (l : List PA) : List PA := l.filter fun q => decide (q.key ≠ k)
/-- .. with a pair in its place. -/
def wiL (p : PA) : List PA → List PA
  | [] => [p]
  | q :: l => if ck q.key p.key > 0 then p :: q :: l else q :: wiL p l
def SortedP (l : List PA) : Prop := l.Pairwise fun a b => ck a.key b.key = -1
theorem ck_eq {a b : ByteArray} (h : ck a b = 0) : a = b := WideShapes.bytes_inj (cmpB_eq h)
theorem ck_self (a : ByteArray) : ck a a = 0 := cmpB_self _
theorem ck_swap (a b : ByteArray) : ck b a = - ck a b := cmpB_swap _ _
theorem ck_trans {a b c : ByteArray} (h1 : ck a b = -1) (h2 : ck b c = -1) : ck a c = -1 := cmpB_trans h1 h2
theorem ck_range (a b : ByteArray) : ck a b = -1 ∨ ck a b = 0 ∨ ck a b = 1 := cmpB_range _ _
theorem woL_sorted {l : List PA} (h : SortedP l) (k : ByteArray) : SortedP (woL k l) := h.filter _
theorem woL_mem {l : List PA} {k : ByteArray} {q : PA} : q ∈ woL k l ↔ q ∈ l ∧ q.key ≠ k := by simp [woL]
theorem wiL_mem {p q : PA} : ∀ {l : List PA}, q ∈ wiL p l ↔ q = p ∨ q ∈ l
  | [] => by simp [wiL]
  | x :: l => by
    unfold wiL
    split
    · simp
    · rw [List.mem_cons, wiL_mem, List.mem_cons]
      constructor
      · rintro (h | h | h) <;> simp [h]
      · rintro (h | h | h) <;> simp [h]
theorem wiL_sorted {p : PA} : ∀ {l : List PA}, SortedP l → (∀ q ∈ l, q.key ≠ p.key) → SortedP (wiL p l)
  | [], _, _ => by simp [wiL, SortedP]
  | x :: l, h, hn => by
    obtain ⟨h1, h2⟩ := List.pairwise_cons.1 h
    have hx := hn x (by simp)
    unfold wiL
    split
    · rename_i hg
      have hpx : ck p.key x.key = -1 := by
        have := ck_range x.key p.key
        rw [ck_swap x.key p.key]; omega
      refine List.pairwise_cons.2 ⟨fun q hq => ?_, h⟩
      rcases List.mem_cons.1 hq with rfl | hq
      · exact hpx
      · exact ck_trans hpx (h1 q hq)
    · rename_i hg
      have hxp : ck x.key p.key = -1 := by
        rcases ck_range x.key p.key with h | h | h
        · exact h
        · exact absurd (ck_eq h) hx
        · omega
      refine List.pairwise_cons.2 ⟨fun q hq => ?_, wiL_sorted h2 fun q hq => hn q (by simp [hq])⟩
      rcases wiL_mem.1 hq with rfl | hq
      · exact hxp
      · exact h1 q hq
theorem wiL_len (p : PA) : ∀ l : List PA, (wiL p l).length = l.length + 1
  | [] => rfl
  | x :: l => by
    unfold wiL
    split
    · simp
    · simp [wiL_len p l]
theorem woL_len (k : ByteArray) (l : List PA) : (woL k l).length ≤ l.length := List.length_filter_le _ _
/-- A record as a pair. -/
def rp (r : RC) : PA := ⟨r.key, r.val, r.off, r.time⟩
def fold1 (l : List PA) (p : PA) : List PA := wiL p (woL p.key l)
def fold2 (l : List PA) (r : RC) : List PA := if r.kind = 2 then woL r.key l else wiL (rp r) (woL r.key l)
/-- What Fold answers. -/
def foldL (a : List PA) (b : List RC) : List PA := b.foldl fold2 (a.foldl fold1 [])
theorem fold1_sorted {l : List PA} (h : SortedP l) (p : PA) : SortedP (fold1 l p) := wiL_sorted (woL_sorted h _) fun _ hq => (woL_mem.1 hq).2
theorem fold2_sorted {l : List PA} (h : SortedP l) (r : RC) : SortedP (fold2 l r) := by
  unfold fold2
  split
  · exact woL_sorted h _
  · exact wiL_sorted (woL_sorted h _) fun _ hq => (woL_mem.1 hq).2
theorem fold1_len (l : List PA) (p : PA) : (fold1 l p).length ≤ l.length + 1 := by
  unfold fold1; rw [wiL_len]; have := woL_len p.key l; omega
theorem fold2_len (l : List PA) (r : RC) : (fold2 l r).length ≤ l.length + 1 := by
  unfold fold2
  have := woL_len r.key l
  split
  · omega
  · rw [wiL_len]; omega
theorem foldl_snoc {α β : Type} (f : β → α → β) (z : β) (l : List α) {k : Nat} (hk : k < l.length) : (l.take (k + 1)).foldl f z = f ((l.take k).foldl f z) l[k] := by
  rw [List.take_succ_eq_append_getElem hk, List.foldl_append]; rfl
theorem folda_len (a : List PA) (k : Nat) : ((a.take k).foldl fold1 []).length ≤ k := by
  induction k with
  | zero => simp
  | succ k ih =>
    by_cases hk : k < a.length
    · rw [foldl_snoc _ _ _ hk]
      have := fold1_len ((a.take k).foldl fold1 []) a[k]
      omega
    · rw [List.take_of_length_le (by omega)]
      rw [List.take_of_length_le (by omega)] at ih
      omega
theorem foldb_len (z : List PA) (b : List RC) (k : Nat) : ((b.take k).foldl fold2 z).length ≤ z.length + k := by
  induction k with
  | zero => simp
  | succ k ih =>
    by_cases hk : k < b.length
    · rw [foldl_snoc _ _ _ hk]
      have := fold2_len ((b.take k).foldl fold2 z) b[k]
      omega
    · rw [List.take_of_length_le (by omega)]
      rw [List.take_of_length_le (by omega)] at ih
      omega
theorem folda_sorted (a : List PA) (k : Nat) : SortedP ((a.take k).foldl fold1 []) := by
  induction k with
  | zero => simp [SortedP]
  | succ k ih =>
    by_cases hk : k < a.length
    · rw [foldl_snoc _ _ _ hk]; exact fold1_sorted ih _
    · rw [List.take_of_length_le (by omega)] at ih ⊢; exact ih
theorem foldb_sorted {z : List PA} (hz : SortedP z) (b : List RC) (k : Nat) : SortedP ((b.take k).foldl fold2 z) := by
  induction k with
  | zero => simpa using hz
  | succ k ih =>
    by_cases hk : k < b.length
    · rw [foldl_snoc _ _ _ hk]; exact fold2_sorted ih _
    · rw [List.take_of_length_le (by omega)] at ih ⊢; exact ih
theorem foldL_len (a : List PA) (b : List RC) : (foldL a b).length ≤ a.length + b.length := by
  have h1 := folda_len a a.length
  have h2 := foldb_len (a.foldl fold1 []) b b.length
  rw [List.take_length] at h1 h2
  unfold foldL
  omega
end Go.Proofs.Ytnkhmebmgncjbaa
