import Derived.Test.YtociadicjbkjcaaKd20
/- Get, last and Remove answered by one form (oe, ob); what stays when the keys of a row are removed one after the other. -/
namespace Go.Proofs.Ytociadicjbkjcaa
open Go.RowKit Go.Maps

def oe (o : Option En) : En := o.getD En.zero
def ob (o : Option En) : Bool := o.isSome
theorem entV_one (o : Option En) : entV o = .tuple #[(oe o).v, .bool (ob o)] := by cases o <;> rfl
theorem ob_none {o : Option En} (h : ob o = false) : oe o = En.zero := by cases o with
  | none => rfl
  | some e => cases h
theorem get_one (d : Nat) (key : ByteArray) (xs : List KE) (w : World) (h : DR w d xs) (hz : key.size ≤ maxLen) :
    Calls Try.prog 14 #[.pointer (some ⟨d, 0, none⟩), .string key] w fun e w' => e = .returned (.tuple #[(oe (getL key xs)).v, .bool (ob (getL key xs))]) ∧ Below w.heap.size w w' :=
  (get_any d key xs w h hz).mono fun e w' ⟨h1, h2⟩ => ⟨by rw [h1, entV_one], h2⟩
theorem last_one (A : Option Addr) (n c : Nat) (key : ByteArray) (l : List KE) (w : World) (hA : Rd w w.heap.size A (l.flatMap keC)) (hn : l.length = n) (hmx : n ≤ 140737488351232) (hz : key.size ≤ maxLen) :
    Calls Try.prog 13 #[.slice A n c, .string key] w fun e w' => e = .returned (.tuple #[(oe (lastB key l)).v, .bool (ob (lastB key l))]) ∧ Below w.heap.size w w' :=
  (last_any A n c key l w hA hn hmx hz).mono fun e w' ⟨h1, h2⟩ => ⟨by rw [h1, entV_one], h2⟩
theorem rem_one (d : Nat) (key : ByteArray) (xs : List KE) (w : World) (h : DR w d xs) (hz : key.size ≤ maxLen) (hc : xs.length ≤ 800000000000000) :
    Calls Try.prog 19 #[.pointer (some ⟨d, 0, none⟩), .string key] w fun e w' => e = .returned (.tuple #[(oe (getL key xs)).v, .bool (ob (getL key xs))]) ∧ DR w' d (rstep xs key) ∧ Dch d w w' := by
  unfold rstep
  cases hg : getL key xs with
  | none =>
    rw [if_pos rfl]
    exact (rem_no d key xs w h hz hg).mono fun e w' ⟨h1, h2⟩ => ⟨h1, h.next h2, Chg.of_below h2 _⟩
  | some o =>
    rw [if_neg (by simp)]
    exact (rem_yes d key xs w h hz hc o hg).mono fun e w' ⟨h1, h2, h3⟩ => ⟨h1, h2, h3⟩

theorem rstep_sorted {xs : List KE} (h : Sorted xs) (key : ByteArray) : Sorted (rstep xs key) := by
  unfold rstep
  split
  · exact h
  · exact h.del _
theorem rstep_get {xs : List KE} (h : Sorted xs) (k key : ByteArray) : getL key (rstep xs k) = if key = k then none else getL key xs := by
  unfold rstep
  split
  · rename_i hn
    split
    · rename_i e; rw [e]; exact hn
    · rfl
  · exact get_del h key
def hasB (key : ByteArray) (g : List ByteArray) : Bool := g.any fun y => decide (y = key)
theorem hasB_snoc (key : ByteArray) (g : List ByteArray) (x : ByteArray) : hasB key (g ++ [x]) = (hasB key g || decide (x = key)) := by unfold hasB; simp
/-- What is left of the list when the keys of a row were removed. -/
def remd (xs : List KE) (g : List ByteArray) : List KE := g.foldl rstep xs
theorem remd_snoc (xs : List KE) (g : List ByteArray) (k : Nat) (h : k < g.length) : remd xs (g.take (k + 1)) = rstep (remd xs (g.take k)) g[k] := by
  unfold remd
  rw [List.take_add_one, List.getElem?_eq_getElem h, Option.toList_some, List.foldl_append]; rfl
theorem remd_get (key : ByteArray) {xs : List KE} (h : Sorted xs) (g : List ByteArray) : ∀ k, k ≤ g.length → Sorted (remd xs (g.take k)) ∧ (remd xs (g.take k)).length ≤ xs.length ∧ getL key (remd xs (g.take k)) = if hasB key (g.take k) = true then none else getL key xs := by
  intro k
  induction k with
  | zero => intro _; exact ⟨h, Nat.le_refl _, by simp [remd, hasB]⟩
  | succ k ih =>
    intro hk
    obtain ⟨i1, i2, i3⟩ := ih (by omega)
    rw [remd_snoc xs g k (by omega), List.take_add_one, List.getElem?_eq_getElem (by omega : k < g.length), Option.toList_some]
    refine ⟨rstep_sorted i1 _, Nat.le_trans (rstep_len _ _) i2, ?_⟩
    rw [rstep_get i1, i3, hasB_snoc]
    generalize g[k]'(by omega) = x
    by_cases hx : key = x
    · subst hx; simp
    · have hx' : ¬ x = key := fun e => hx e.symm
      simp [hx, hx']
end Go.Proofs.Ytociadicjbkjcaa
