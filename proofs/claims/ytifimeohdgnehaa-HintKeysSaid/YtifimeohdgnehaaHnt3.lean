import Derived.Test.YtifimeohdgnehaaHnt2
import Derived.StringKeys
namespace Go.Proofs.Ytifimeohdgnehaa
open Go.RowKit Go.Maps

/-! Sets of texts: a map from string to int. -/
def dcount : List (List UInt8) → Nat
  | [] => 0
  | k :: r => dcount r + (if k ∈ r then 0 else 1)
theorem dcount_le (l : List (List UInt8)) : dcount l ≤ l.length := by
  induction l with
  | nil => exact Nat.le_refl _
  | cons k r ih => simp only [dcount, List.length_cons]; split <;> omega
theorem dcount_eq (l : List (List UInt8)) : dcount l = l.length ↔ l.Nodup := by
  induction l with
  | nil => simp [dcount]
  | cons k r ih =>
    have := dcount_le r
    simp only [dcount, List.length_cons, List.nodup_cons, ← ih]
    split
    · rename_i h
      constructor
      · intro e; omega
      · rintro ⟨h1, _⟩; exact absurd h h1
    · rename_i h
      constructor
      · intro e; exact ⟨h, by omega⟩
      · rintro ⟨_, h2⟩; omega
def keysTo (l : List HE) : Nat → List (List UInt8)
  | 0 => []
  | i + 1 => (nth l i).key.data.toList :: keysTo l i
theorem keysTo_len (l : List HE) (n : Nat) : (keysTo l n).length = n := by
  induction n with
  | zero => rfl
  | succ n ih => simp [keysTo, ih]
theorem keysTo_mem (l : List HE) (n : Nat) (x : List UInt8) : x ∈ keysTo l n ↔ ∃ j, j < n ∧ (nth l j).key.data.toList = x := by
  induction n with
  | zero => simp [keysTo]
  | succ n ih =>
    simp only [keysTo, List.mem_cons, ih]
    constructor
    · rintro (rfl | ⟨j, hj, rfl⟩)
      · exact ⟨n, by omega, rfl⟩
      · exact ⟨j, by omega, rfl⟩
    · rintro ⟨j, hj, rfl⟩
      by_cases h : j = n
      · exact .inl (by rw [h])
      · exact .inr ⟨j, by omega, rfl⟩
theorem keysTo_nodup (l : List HE) (n : Nat) : (keysTo l n).Nodup ↔ ∀ i k, i < n → k < i → (nth l k).key ≠ (nth l i).key := by
  induction n with
  | zero => simp [keysTo]
  | succ n ih =>
    simp only [keysTo, List.nodup_cons, ih, keysTo_mem]
    constructor
    · rintro ⟨h1, h2⟩ i k hi hk e
      by_cases hin : i = n
      · subst hin; exact h1 ⟨k, hk, by rw [e]⟩
      · exact h2 i k (by omega) hk e
    · intro h
      exact ⟨fun ⟨j, hj, e⟩ => h n j (by omega) hj (WideShapes.bytes_inj e), fun i k hi hk => h i k (by omega) hk⟩

section
variable {P : Program} {K E : TypeId}
/-- Block b is a map of at most n entries whose keys are just the texts ks. -/
def SSet (P : Program) (K E : TypeId) (w : World) (b n : Nat) (ks : List (List UInt8)) : Prop :=
  ∃ D : DataW Unit, w.ownsMap P K (plainElem P E) b n D ∧ Tidy D ∧ (∀ x : List UInt8, Maps.has D (.string x) = decide (x ∈ ks)) ∧ Maps.size D = dcount ks
theorem SSet.made (w : World) : SSet P K E (w.alloc (.map #[] 0)) w.heap.size 0 [] :=
  ⟨.map [], World.ownsMap_made _ _ _ _, tidy_empty, fun _ => by simp [Maps.has], rfl⟩
theorem SSet.kept {w w' : World} {b n : Nat} {ks : List (List UInt8)} (h : SSet P K E w b n ks) {row : Option Nat} (hg : w.grownBy w' row) (hne : some b ≠ row) : SSet P K E w' b n ks :=
  let ⟨D, h1, h2, h3, h4⟩ := h; ⟨D, h1.kept hg hne, h2, h3, h4⟩
theorem SSet.lt {w : World} {b n : Nat} {ks : List (List UInt8)} (h : SSet P K E w b n ks) : b < w.heap.size := let ⟨_, h1, _⟩ := h; h1.lt
theorem SSet.len {w : World} {b n : Nat} {ks : List (List UInt8)} (h : SSet P K E w b n ks) {T : TypeId} (ht : P.underlying T = some (.map K E)) (ty : TypeId) :
    (Builtin.len_ #[T] ty #[.map (some b)]).run P w = .ok (.int .i64 (dcount ks)) w := by
  obtain ⟨D, h1, _, _, h4⟩ := h
  rw [h1.len ht ty, h4]
theorem SSet.store {w : World} {b n : Nat} {ks : List (List UInt8)} (h : SSet P K E w b n ks) (hk : P.underlying K = some .string) (he : P.underlying E = some (.int .i64)) {T : TypeId} (ht : P.underlying T = some (.map K E))
    (hn : n < maxLen) (s : ByteArray) (v : Int) (hs : s.size ≤ maxLen) (hv : (Lit.int .i64 v).wf = true) :
    ∃ w', (Instr.mapUpdate T (.map (some b)) (.string s) (.int .i64 v)).run P w = .ok () w' ∧ SSet P K E w' b (n + 1) (s.data.toList :: ks) ∧ w.grownBy w' (some b) := by
  obtain ⟨D, h1, h2, h3, h4⟩ := h
  obtain ⟨w', hrun, r1, r2⟩ := h1.update (string_keyed hk) ht hn (WideMaps.keyOf_string_mk hk hs) (plainElem_int he hv)
  refine ⟨w', hrun, ⟨_, r1, h2.put (by trivial) _, fun x => ?_, ?_⟩, r2⟩
  · by_cases hx : x = s.data.toList
    · subst hx
      rw [has_put_same h2.isMap (by trivial)]
      simp
    · rw [has_put_other (by intro e; injection e with e; exact hx e), h3]
      simp [hx]
  · rw [size_put h2, h3, h4]
    simp only [dcount]
    by_cases hm : s.data.toList ∈ ks
    · simp [hm]
    · simp [hm]
theorem wpList_setStore (w : World) {ops : Array Oper} {rest : List Oper} {o : Oper} {a : Act} {Q : Exit → Act → World → Prop}
    (hg : o.guard = none) (m x v : Operand) (T : TypeId) (hop : o.op = Op.mapUpdate T m x v)
    (hk : P.underlying K = some .string) (he : P.underlying E = some (.int .i64)) (ht : P.underlying T = some (.map K E)) (b n : Nat) (ks : List (List UInt8))
    (hm : a.eval m = .map (some b)) (h : SSet P K E w b n ks) (hn : n < maxLen) (key : ByteArray) (val : Int) (hx : a.eval x = .string key) (hv : a.eval v = .int .i64 val)
    (hs : key.size ≤ maxLen) (hvw : (Lit.int .i64 val).wf = true)
    (hK : ∀ w', SSet P K E w' b (n + 1) (key.data.toList :: ks) → w.grownBy w' (some b) → wpList P ops Q rest (a.put o.dst undef) w') :
    wpList P ops Q (o :: rest) a w := by
  refine wpList_plain hg fun K' hK' => ?_
  obtain ⟨w', hrun, r1, r2⟩ := h.store hk he ht hn key val hs hvw
  unfold Oper.wp
  simp [execOp, hop, hm, hx, hv, hrun, Result.andThen]
  exact hK' _ _ (hK w' r1 r2)
end
end Go.Proofs.Ytifimeohdgnehaa
