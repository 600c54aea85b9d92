import Derived.Test.YtifimeohdgnehaaHnt3
import Derived.Maps.RangeWalk
import Derived.Sort.KeysCollected
import Derived.Sort.OwnSortedInts
namespace Go.Proofs.Ytifimeohdgnehaa
open Go.RowKit Go.Maps

/-- A record and where its bytes lie. -/
structure PL where
  kind : Int
  off : Int
  time : Int
  pid : Int
  sq : Int
  key : ByteArray
  val : ByteArray
  pos : Int
  len : Int
def PL.zero : PL := ⟨0, 0, 0, 0, 0, ByteArray.empty, ByteArray.empty, 0, 0⟩
def nine (p : PL) : List Value := [.int .i64 p.kind, .int .i64 p.off, .int .i64 p.time, .int .i64 p.pid, .int .i64 p.sq, .string p.key, .string p.val, .int .i64 p.pos, .int .i64 p.len]
theorem nine_len (l : List PL) : (l.flatMap nine).length = l.length * 9 := by
  induction l with
  | nil => rfl
  | cons p l ih => simp only [List.flatMap_cons, List.length_append, ih, List.length_cons]; show 9 + _ = _; omega
theorem nine_get (l : List PL) (i j : Nat) (hi : i < l.length) (hj : j < 9) : (l.flatMap nine)[i * 9 + j]? = (nine l[i])[j]? := by
  induction l generalizing i with
  | nil => simp at hi
  | cons p l ih =>
    have hl : (nine p).length = 9 := rfl
    cases i with
    | zero => simp only [List.flatMap_cons, List.getElem_cons_zero, Nat.zero_mul, Nat.zero_add]; rw [List.getElem?_append_left (by omega)]
    | succ i =>
      simp only [List.flatMap_cons, List.getElem_cons_succ]
      rw [List.getElem?_append_right (by omega), hl, show (i + 1) * 9 + j - 9 = i * 9 + j by omega]
      exact ih i (by simpa using hi)
/-- A row of placed records: the i-th. -/
theorem Rd.nine_ {w : World} {B : Nat} {A : Option Addr} {l : List PL} (h : Rd w B A (l.flatMap nine)) {i : Nat} (hi : i < l.length) :
    ∃ ad : Addr, A = some ad ∧ ad.block < B ∧ w.cell? (ad.add (i * 9)) = some (.int .i64 l[i].kind) ∧
      w.cell? ⟨(ad.add (i * 9)).block, (ad.add (i * 9)).off + 1, none⟩ = some (.int .i64 l[i].off) ∧ w.cell? ⟨(ad.add (i * 9)).block, (ad.add (i * 9)).off + 2, none⟩ = some (.int .i64 l[i].time) ∧
      w.cell? ⟨(ad.add (i * 9)).block, (ad.add (i * 9)).off + 3, none⟩ = some (.int .i64 l[i].pid) ∧ w.cell? ⟨(ad.add (i * 9)).block, (ad.add (i * 9)).off + 4, none⟩ = some (.int .i64 l[i].sq) ∧
      w.cell? ⟨(ad.add (i * 9)).block, (ad.add (i * 9)).off + 5, none⟩ = some (.string l[i].key) ∧ w.cell? ⟨(ad.add (i * 9)).block, (ad.add (i * 9)).off + 6, none⟩ = some (.string l[i].val) ∧
      w.cell? ⟨(ad.add (i * 9)).block, (ad.add (i * 9)).off + 7, none⟩ = some (.int .i64 l[i].pos) ∧ w.cell? ⟨(ad.add (i * 9)).block, (ad.add (i * 9)).off + 8, none⟩ = some (.int .i64 l[i].len) := by
  obtain ⟨ad, rfl, hb, c0⟩ := h (i * 9) (.int .i64 l[i].kind) (by simpa [nine] using nine_get l i 0 hi (by omega))
  have g : ∀ (j : Nat) (v : Value), j < 9 → (nine l[i])[j]? = some v → w.cell? ((ad.add (i * 9)).add j) = some v := by
    intro j v hj hv
    obtain ⟨a2, e2, _, c2⟩ := h (i * 9 + j) v ((nine_get l i j hi hj).trans hv)
    cases e2
    rw [← add_add'] at c2
    exact c2
  have p : ∀ (a : Addr) (j : Nat), 0 < j → a.add j = ⟨a.block, a.off + j, none⟩ := by
    intro a j hj
    unfold Addr.add
    rw [if_neg (by omega)]
  refine ⟨ad, rfl, hb, c0, ?_, ?_, ?_, ?_, ?_, ?_, ?_, ?_⟩
  · rw [← p _ 1 (by omega)]; exact g 1 _ (by omega) rfl
  · rw [← p _ 2 (by omega)]; exact g 2 _ (by omega) rfl
  · rw [← p _ 3 (by omega)]; exact g 3 _ (by omega) rfl
  · rw [← p _ 4 (by omega)]; exact g 4 _ (by omega) rfl
  · rw [← p _ 5 (by omega)]; exact g 5 _ (by omega) rfl
  · rw [← p _ 6 (by omega)]; exact g 6 _ (by omega) rfl
  · rw [← p _ 7 (by omega)]; exact g 7 _ (by omega) rfl
  · rw [← p _ 8 (by omega)]; exact g 8 _ (by omega) rfl

def pth (l : List PL) (i : Nat) : PL := l.getD i PL.zero
theorem pth_eq {l : List PL} {i : Nat} (hi : i < l.length) : pth l i = l[i] := by simp [pth, hi]
/-- A record's entry. -/
def ent (p : PL) : HE := ⟨p.key, p.off, p.time, p.kind == 2, p.pos, p.len⟩
/-- Does no record of this key stand behind place i, ahead of n? -/
def lastI (l : List PL) (n i : Nat) : Prop := ∀ k, i < k → k < n → (pth l k).key ≠ (pth l i).key
theorem lastI_step {l : List PL} {i k : Nat} (hk : i < k) : lastI l (k + 1) i ↔ lastI l k i ∧ (pth l k).key ≠ (pth l i).key := by
  unfold lastI
  constructor
  · intro h
    exact ⟨fun j h1 h2 => h j h1 (by omega), h k hk (by omega)⟩
  · rintro ⟨h1, h2⟩ j h3 h4
    by_cases e : j = k
    · subst e; exact h2
    · exact h1 j h3 (by omega)
theorem lastI_self (l : List PL) (i : Nat) : lastI l (i + 1) i := fun k h1 h2 => by omega
open Classical in
/-- The places of the keys' last records among the first m, of n. -/
noncomputable def ixs (l : List PL) (n m : Nat) : List Nat := (List.range m).filter fun i => decide (lastI l n i)
theorem ixs_yes {l : List PL} {n m : Nat} (h : lastI l n m) : ixs l n (m + 1) = ixs l n m ++ [m] := by
  unfold ixs
  rw [List.range_succ, List.filter_append]
  simp [h]
theorem ixs_no {l : List PL} {n m : Nat} (h : ¬ lastI l n m) : ixs l n (m + 1) = ixs l n m := by
  unfold ixs
  rw [List.range_succ, List.filter_append]
  simp [h]
theorem ixs_mem {l : List PL} {n m i : Nat} : i ∈ ixs l n m ↔ i < m ∧ lastI l n i := by
  unfold ixs
  rw [List.mem_filter, List.mem_range]
  simp
theorem ixs_len (l : List PL) (n m : Nat) : (ixs l n m).length ≤ m := by
  unfold ixs
  refine Nat.le_trans (List.length_filter_le _ _) ?_
  rw [List.length_range]; exact Nat.le_refl _
theorem ixs_lt (l : List PL) (n m : Nat) : (ixs l n m).Pairwise (· < ·) := by
  unfold ixs
  exact List.Pairwise.filter _ List.pairwise_lt_range
theorem ixs_nodup (l : List PL) (n m : Nat) : (ixs l n m).Nodup := (ixs_lt l n m).imp fun h => by omega
/-- A hint's entries. -/
noncomputable def hofE (l : List PL) (n : Nat) : List HE := (ixs l n n).map fun i => ent (pth l i)

theorem sorted_is {is : List Int} {l : List PL} {n m : Nat} (h : is.Perm ((ixs l n m).map Int.ofNat)) : is.mergeSort (fun x y => decide (x ≤ y)) = (ixs l n m).map Int.ofNat := by
  refine List.Perm.eq_of_pairwise (le := fun a b : Int => decide (a ≤ b) = true) (fun a b _ _ h1 h2 => ?_) (List.pairwise_mergeSort ?_ ?_ is) ?_ ((List.mergeSort_perm is _).trans h)
  · simp only [decide_eq_true_eq] at h1 h2; omega
  · intro a b c h1 h2; simp only [decide_eq_true_eq] at *; omega
  · intro a b; simp only [Bool.or_eq_true, decide_eq_true_eq]; omega
  · rw [List.pairwise_map]
    refine (ixs_lt l n m).imp fun {a b} h => ?_
    simp only [decide_eq_true_eq]
    exact Int.ofNat_le.2 (by omega)

/-- The greatest place below n of a key that stands there. -/
theorem last_of {l : List PL} {n j : Nat} (hj : j < n) : ∃ i, i < n ∧ lastI l n i ∧ (pth l i).key = (pth l j).key := by
  induction n with
  | zero => omega
  | succ n ih =>
    by_cases he : (pth l n).key = (pth l j).key
    · exact ⟨n, by omega, lastI_self l n, he⟩
    · have hjn : j < n := by
        rcases Nat.lt_or_ge j n with h | h
        · exact h
        · have : j = n := by omega
          subst this; exact absurd rfl he
      obtain ⟨i, h1, h2, h3⟩ := ih hjn
      exact ⟨i, by omega, (lastI_step h1).2 ⟨h2, by rw [h3]; exact he⟩, h3⟩
theorem last_one {l : List PL} {n i j : Nat} (hi : i < n) (hj : j < n) (h1 : lastI l n i) (h2 : lastI l n j) (he : (pth l i).key = (pth l j).key) : i = j := by
  rcases Nat.lt_trichotomy i j with h | h | h
  · exact absurd he.symm (h1 j h hj)
  · exact h
  · exact absurd he (h2 i h hi)

section
variable {P : Program} {K E : TypeId}
/-- Block b is a map that has of each key of the first i records its last place. -/
def LMap (P : Program) (K E : TypeId) (l : List PL) (w : World) (b i : Nat) (D : DataW Unit) : Prop :=
  w.ownsMap P K (plainElem P E) b i D ∧ Tidy D ∧ (∀ x : List UInt8, Maps.has D (.string x) = true ↔ ∃ j, j < i ∧ (pth l j).key.data.toList = x) ∧ Maps.size D ≤ i ∧
    ∀ j, j < i → lastI l i j → ∀ zd, D.atKey (.string (pth l j).key.data.toList) zd = .lit (.int .i64 j)
variable {l : List PL}
theorem LMap.made (w : World) : LMap P K E l (w.alloc (.map #[] 0)) w.heap.size 0 (.map []) :=
  ⟨World.ownsMap_made _ _ _ _, tidy_empty, fun _ => by simp [Maps.has], Nat.le_refl _, fun j hj => by omega⟩
theorem LMap.kept {w w' : World} {b i : Nat} {D : DataW Unit} (h : LMap P K E l w b i D) {row : Option Nat} (hg : w.grownBy w' row) (hne : some b ≠ row) : LMap P K E l w' b i D :=
  ⟨h.1.kept hg hne, h.2⟩
theorem LMap.lt {w : World} {b i : Nat} {D : DataW Unit} (h : LMap P K E l w b i D) : b < w.heap.size := h.1.lt
theorem LMap.store {w : World} {b i : Nat} {D : DataW Unit} (h : LMap P K E l w b i D) (hk : P.underlying K = some .string) (he : P.underlying E = some (.int .i64)) {T : TypeId} (ht : P.underlying T = some (.map K E))
    (hn : i < maxLen) (hs : (pth l i).key.size ≤ maxLen) (hv : (Lit.int .i64 i).wf = true) :
    ∃ w' D', (Instr.mapUpdate T (.map (some b)) (.string (pth l i).key) (.int .i64 i)).run P w = .ok () w' ∧ LMap P K E l w' b (i + 1) D' ∧ w.grownBy w' (some b) := by
  obtain ⟨h1, h2, h3, h4, h5⟩ := h
  obtain ⟨w', hrun, r1, r2⟩ := h1.update (string_keyed hk) ht hn (WideMaps.keyOf_string_mk hk hs) (plainElem_int he hv)
  refine ⟨w', _, hrun, ⟨r1, h2.put (by trivial) _, fun x => ?_, ?_, fun j hj hl zd => ?_⟩, r2⟩
  · by_cases hx : x = (pth l i).key.data.toList
    · subst hx
      rw [has_put_same h2.isMap (by trivial)]
      exact ⟨fun _ => ⟨i, by omega, rfl⟩, fun _ => rfl⟩
    · rw [has_put_other (by intro e; injection e with e; exact hx e), h3]
      constructor
      · rintro ⟨j, hj, e⟩; exact ⟨j, by omega, e⟩
      · rintro ⟨j, hj, e⟩
        by_cases hji : j = i
        · subst hji; exact absurd e.symm hx
        · exact ⟨j, by omega, e⟩
  · rw [size_put h2]
    split <;> omega
  · by_cases hji : j = i
    · subst hji
      rw [atKey_put_same h2.isMap (by trivial)]
    · have hj' : j < i := by omega
      obtain ⟨hl1, hl2⟩ := (lastI_step hj').1 hl
      rw [atKey_put_other (by intro e; injection e with e; exact hl2 (WideShapes.bytes_inj e).symm)]
      exact h5 j hj' hl1 zd
theorem wpList_lStore (w : World) {ops : Array Oper} {rest : List Oper} {o : Oper} {a : Act} {Q : Exit → Act → World → Prop}
    (hg : o.guard = none) (m x v : Operand) (T : TypeId) (hop : o.op = Op.mapUpdate T m x v)
    (hk : P.underlying K = some .string) (he : P.underlying E = some (.int .i64)) (ht : P.underlying T = some (.map K E)) (b i : Nat) (D : DataW Unit)
    (hm : a.eval m = .map (some b)) (h : LMap P K E l w b i D) (hn : i < maxLen) (hx : a.eval x = .string (pth l i).key) (hv : a.eval v = .int .i64 i)
    (hs : (pth l i).key.size ≤ maxLen) (hvw : (Lit.int .i64 i).wf = true)
    (hK : ∀ w' D', LMap P K E l w' b (i + 1) D' → w.grownBy w' (some b) → wpList P ops Q rest (a.put o.dst undef) w') :
    wpList P ops Q (o :: rest) a w := by
  refine wpList_plain hg fun K' hK' => ?_
  obtain ⟨w', D', hrun, r1, r2⟩ := h.store hk he ht hn hs hvw
  unfold Oper.wp
  simp [execOp, hop, hm, hx, hv, hrun, Result.andThen]
  exact hK' _ _ (hK w' D' r1 r2)

/-- The places collected while a range goes over the map. -/
def Coll (l : List PL) (n : Nat) (D : DataW Unit) (left : Lit → Bool) (is : List Nat) : Prop :=
  is.Nodup ∧ (∀ kl, left kl = true → Maps.has D kl = true) ∧ (∀ j, j ∈ is ↔ j < n ∧ lastI l n j ∧ left (.string (pth l j).key.data.toList) = false)
theorem Coll.start {w : World} {b n : Nat} {D : DataW Unit} (h : LMap P K E l w b n D) : Coll l n D (Maps.has D) [] := by
  refine ⟨List.nodup_nil, fun _ h => h, fun j => ⟨fun h => (by cases h), fun ⟨h1, h2, h3⟩ => ?_⟩⟩
  rw [(h.2.2.1 _).2 ⟨j, h1, rfl⟩] at h3
  cases h3
theorem Coll.step {w : World} {b n : Nat} {D : DataW Unit} {left : Lit → Bool} {is : List Nat} (hL : LMap P K E l w b n D) (h : Coll l n D left is) {x : List UInt8} {c : Int} (hlk : left (.string x) = true)
    (hat : ∀ zd, D.atKey (.string x) zd = .lit (.int .i64 c)) :
    ∃ j : Nat, c = j ∧ j < n ∧ Coll l n D (fun z => left z && !z.sameKey (.string x)) (is ++ [j]) := by
  obtain ⟨h1, h2, h3⟩ := h
  obtain ⟨j, hj, hjx⟩ := (hL.2.2.1 x).1 (h2 _ hlk)
  obtain ⟨i, hi, hil, hik⟩ := last_of (l := l) hj
  have hx : (pth l i).key.data.toList = x := by rw [hik]; exact hjx
  have hc : c = i := by
    have e1 := hat .nil
    rw [← hx, hL.2.2.2.2 i hi hil] at e1
    injection e1 with e1
    injection e1 with _ e1
    exact e1.symm
  have hni : i ∉ is := fun hm => by
    have := ((h3 i).1 hm).2.2
    rw [hx, hlk] at this; cases this
  refine ⟨i, hc, hi, List.nodup_append.2 ⟨h1, by simp, fun a ha b hb => by simp at hb; subst hb; exact fun e => hni (e ▸ ha)⟩, fun kl hkl => ?_, fun k => ?_⟩
  · simp at hkl; exact h2 kl hkl.1
  · rw [List.mem_append, List.mem_singleton, h3 k]
    by_cases hk : k = i
    · subst hk
      simp [hi, hil, hx, Lit.sameKey]
    · constructor
      · rintro (⟨a1, a2, a3⟩ | e)
        · exact ⟨a1, a2, by simp [a3]⟩
        · exact absurd e hk
      · rintro ⟨a1, a2, a3⟩
        refine .inl ⟨a1, a2, ?_⟩
        have hne : (pth l k).key.data.toList ≠ x := fun e => hk (last_one a1 hi a2 hil (WideShapes.bytes_inj (e.trans hx.symm)))
        simpa [Lit.sameKey, hne] using a3
theorem Coll.done {n : Nat} {D : DataW Unit} {left : Lit → Bool} {is : List Nat} (h : Coll l n D left is) (hl : ∀ kl, left kl = false) : (is.map Int.ofNat).mergeSort (fun x y => decide (x ≤ y)) = (ixs l n n).map Int.ofNat := by
  refine sorted_is (List.Perm.map _ ((List.perm_ext_iff_of_nodup h.1 (ixs_nodup l n n)).2 fun j => ?_))
  rw [h.2.2 j, ixs_mem, hl]
  simp
end
end Go.Proofs.Ytifimeohdgnehaa
