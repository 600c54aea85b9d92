import Derived.Test.YtnkhmebmgncjbaaCf3
import Derived.Test.YtnkhmebmgncjbaaLayI
import Derived.Maps.OwnOps
namespace Go.Proofs.Ytnkhmebmgncjbaa
open Go.RowKit Go.Maps
open Go.Proofs (encStr)

open Classical in
/-- How the map's elements are read. -/
noncomputable def pairR (v : Value) : Option (DataW PA × List MemPlace) := if h : ∃ p : PA, v = p.v then some (.held h.choose, []) else none
theorem pv_inj {p q : PA} (h : p.v = q.v) : p = q := by
  cases p; cases q
  simp [PA.v] at h
  obtain ⟨rfl, rfl, rfl, rfl⟩ := h
  rfl
theorem pairR_mk (p : PA) : pairR (.agg #[.string p.key, .string p.val, .int .i64 p.off, .int .i64 p.time]) = some (.held p, []) := by
  have h : ∃ q : PA, p.v = q.v := ⟨p, rfl⟩
  show pairR p.v = _
  unfold pairR
  rw [dif_pos h]
  have e : h.choose = p := (pv_inj h.choose_spec).symm
  rw [e]
theorem pairR_inv {v : Value} {z : DataW PA} {ps : List MemPlace} (h : pairR v = some (z, ps)) : ∃ p : PA, v = p.v ∧ z = .held p := by
  unfold pairR at h
  split at h
  · rename_i hx
    injection h with h
    injection h with h1 h2
    exact ⟨_, hx.choose_spec, h1.symm⟩
  · cases h

/-- Block b is a map that reads as D, which has just the pairs of l. -/
structure FM (w : World) (b n : Nat) (D : DataW PA) (l : List PA) : Prop where
  own : w.ownsMap Try.prog 9 pairR b n D
  has_ : ∀ x : List UInt8, Maps.has D (.string x) = true ↔ ∃ p ∈ l, p.key.data.toList = x
  at_ : ∀ p ∈ l, ∀ zd, D.atKey (.string p.key.data.toList) zd = .held p
section
variable {w w' : World} {b n : Nat} {D : DataW PA} {l : List PA}
theorem FM.kept (h : FM w b n D l) {row : Option Nat} (hg : w.grownBy w' row) (hne : some b ≠ row) : FM w' b n D l := ⟨h.own.kept hg hne, h.has_, h.at_⟩
theorem FM.alloc (h : FM w b n D l) (o : Obj) : FM (w.alloc o) b n D l := h.kept (World.grownBy_alloc w o none) (by simp)
theorem FM.below (h : FM w b n D l) {B : Nat} (hb : Below B w w') (hlt : b < B) : FM w' b n D l := by
  refine ⟨?_, h.has_, h.at_⟩
  obtain ⟨es, clock, h1, h2⟩ := h.own
  exact ⟨es, clock, (hb.block b hlt).trans h1, h2⟩
theorem FM.put {w' : World} {n' : Nat} {p : PA} (h : FM w b n D l) (hown : w'.ownsMap Try.prog 9 pairR b n' (D.put (.string p.key.data.toList) (.held p))) : FM w' b n' (D.put (.string p.key.data.toList) (.held p)) (wiL p (woL p.key l)) := by
  have him := h.own.isMap
  refine ⟨hown, fun x => ?_, fun q hq zd => ?_⟩
  · by_cases hx : x = p.key.data.toList
    · subst hx
      rw [has_put_same him (by trivial)]
      exact ⟨fun _ => ⟨p, wiL_mem.2 (.inl rfl), rfl⟩, fun _ => rfl⟩
    · rw [has_put_other (by intro e; injection e with e; exact hx e), h.has_]
      constructor
      · rintro ⟨q, hq, rfl⟩
        exact ⟨q, wiL_mem.2 (.inr (woL_mem.2 ⟨hq, fun e => hx (by rw [e])⟩)), rfl⟩
      · rintro ⟨q, hq, rfl⟩
        rcases wiL_mem.1 hq with rfl | hq
        · exact absurd rfl hx
        · exact ⟨q, (woL_mem.1 hq).1, rfl⟩
  · rcases wiL_mem.1 hq with rfl | hq
    · rw [atKey_put_same him (by trivial)]
    · obtain ⟨h1, h2⟩ := woL_mem.1 hq
      rw [atKey_put_other (by intro e; injection e with e; exact h2 (WideShapes.bytes_inj e))]
      exact h.at_ q h1 zd
theorem FM.del {w' : World} {n' : Nat} {k : ByteArray} (h : FM w b n D l) (hown : w'.ownsMap Try.prog 9 pairR b n' (D.del (.string k.data.toList))) : FM w' b n' (D.del (.string k.data.toList)) (woL k l) := by
  refine ⟨hown, fun x => ?_, fun q hq zd => ?_⟩
  · by_cases hx : x = k.data.toList
    · subst hx
      rw [has_del_same]
      refine ⟨fun h => (by cases h), ?_⟩
      rintro ⟨q, hq, e⟩
      exact absurd (WideShapes.bytes_inj e) (woL_mem.1 hq).2
    · rw [has_del_other (by intro e; injection e with e; exact hx e), h.has_]
      constructor
      · rintro ⟨q, hq, rfl⟩
        exact ⟨q, woL_mem.2 ⟨hq, fun e => hx (by rw [e])⟩, rfl⟩
      · rintro ⟨q, hq, rfl⟩
        exact ⟨q, (woL_mem.1 hq).1, rfl⟩
  · obtain ⟨h1, h2⟩ := woL_mem.1 hq
    rw [atKey_del_other (by intro e; injection e with e; exact h2 (WideShapes.bytes_inj e))]
    exact h.at_ q h1 zd
theorem cmp_lt : ∀ {a b : List UInt8}, cmpB a b = -1 → a < b
  | [], [], h => by simp [cmpB] at h
  | [], _ :: _, _ => List.nil_lt_cons _ _
  | _ :: _, [], h => by simp [cmpB] at h
  | x :: a, y :: b, h => by
    simp only [cmpB] at h
    rw [List.cons_lt_cons_iff]
    by_cases h1 : x.toNat < y.toNat
    · exact .inl (UInt8.lt_iff_toNat_lt.2 h1)
    · rw [if_neg h1] at h
      by_cases h2 : y.toNat < x.toNat
      · rw [if_pos h2] at h; cases h
      · rw [if_neg h2] at h
        exact .inr ⟨UInt8.toNat_inj.1 (by omega), cmp_lt h⟩
theorem FM.keys (h : FM w b n D l) (hs : SortedP l) {ss : List (List UInt8)} (hp : ss.Perm (strKeys D)) : ss.mergeSort (fun x y => decide (x ≤ y)) = l.map fun p => p.key.data.toList := by
  have K : Keyed Try.prog 9 := string_keyed Try.underlying9
  obtain ⟨es, hD, hpw, _⟩ := h.own.entries K
  obtain ⟨es', hD', hko⟩ := h.own.keysOf
  obtain rfl : es = es' := by rw [hD] at hD'; simpa using hD'
  have hsl : (l.map fun p => p.key.data.toList).Pairwise fun a b => a < b := by
    rw [List.pairwise_map]
    exact hs.imp fun h => cmp_lt h
  have hnd : (l.map fun p => p.key.data.toList).Nodup := hsl.imp fun h e => by rw [e] at h; exact absurd h (List.lt_irrefl _)
  have hmem : ∀ x, x ∈ (l.map fun p => p.key.data.toList) ↔ Maps.has (DataW.map es) (.string x) = true := fun x => by
    have := h.has_ x
    rw [hD] at this
    rw [this, List.mem_map]
  have hpk := perm_strKeys hpw (fun p hp => by obtain ⟨v, hv⟩ := hko p hp; obtain ⟨x, _, hx, _⟩ := Maps.keyOf_str Try.underlying9 hv; exact ⟨x, hx⟩) hnd hmem
  rw [← hD] at hpk
  have tr : ∀ a b c : List UInt8, leB a b = true → leB b c = true → leB a c = true := fun a b c h1 h2 => by simp only [leB, decide_eq_true_eq] at *; exact List.le_trans h1 h2
  have to : ∀ a b : List UInt8, (leB a b || leB b a) = true := fun a b => by simp only [leB, Bool.or_eq_true, decide_eq_true_eq]; exact List.le_total a b
  refine List.Perm.eq_of_pairwise (le := fun a b => leB a b = true) (fun a b _ _ h1 h2 => ?_) (List.pairwise_mergeSort tr to ss) (hsl.imp fun h => ?_) (((List.mergeSort_perm ss leB).trans hp).trans hpk.symm)
  · simp only [leB, decide_eq_true_eq] at h1 h2
    exact List.le_antisymm h1 h2
  · simp only [leB, decide_eq_true_eq]
    exact List.le_of_lt h
end
theorem enc_key (k : ByteArray) : encStr k.data.toList = .string k := by simp [encStr]
end Go.Proofs.Ytnkhmebmgncjbaa
