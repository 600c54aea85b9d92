import Derived.Test.YtnecafhakkjbpaaSm27
/- Images that are read. -/
namespace Go.Proofs.Ytnecafhakkjbpaa
open Go.RowKit Go.Maps

theorem flat2 : ∀ (l : List ((ByteArray × List UInt8) × Value)) (i : Nat) (p : (ByteArray × List UInt8) × Value), l[i]? = some p → (l.flatMap fcell)[i * 2]? = some (.string p.1.1) ∧ (l.flatMap fcell)[i * 2 + 1]? = some p.2
  | [], i, p, h => by simp at h
  | q :: r, 0, p, h => by
    simp at h
    subst h
    exact ⟨rfl, rfl⟩
  | q :: r, i + 1, p, h => by
    have h1 := flat2 r i p (by simpa using h)
    have hl : (fcell q).length = 2 := rfl
    rw [List.flatMap_cons, List.getElem?_append_right (by omega), List.getElem?_append_right (by omega), hl, show (i + 1) * 2 - 2 = i * 2 by omega, show (i + 1) * 2 + 1 - 2 = i * 2 + 1 by omega]
    exact h1
/-- An image, read at A: all below B. -/
def IM (w : World) (B : Nat) (A : Option Addr) (l : List (ByteArray × List UInt8)) : Prop := ∀ (i : Nat) (p : ByteArray × List UInt8), l[i]? = some p → ∃ (ad : Addr) (x : Option Addr) (c : Nat), A = some ad ∧ ad.block < B ∧ w.cell? (ad.add (i * 2)) = some (.string p.1) ∧ w.cell? ⟨(ad.add (i * 2)).block, (ad.add (i * 2)).off + 1, none⟩ = some (.slice x p.2.length c) ∧ Rd w B x (bv p.2)
theorem IM.below {w w' : World} {B : Nat} {A : Option Addr} {l : List (ByteArray × List UInt8)} (h : IM w B A l) (hb : Below B w w') : IM w' B A l := by
  intro i p hp
  obtain ⟨ad, x, c, h1, h2, h3, h4, h5⟩ := h i p hp
  exact ⟨ad, x, c, h1, h2, by rw [hb.cell (by rw [add_block]; exact h2)]; exact h3, by rw [hb.cell (by show (ad.add (i * 2)).block < B; rw [add_block]; exact h2)]; exact h4, h5.below hb⟩
theorem IM.mono {w : World} {B B' : Nat} {A : Option Addr} {l : List (ByteArray × List UInt8)} (h : IM w B A l) (hb : B ≤ B') : IM w B' A l := by
  intro i p hp
  obtain ⟨ad, x, c, h1, h2, h3, h4, h5⟩ := h i p hp
  exact ⟨ad, x, c, h1, by omega, h3, h4, h5.mono hb⟩
theorem IM.next {w w' : World} {A : Option Addr} {l : List (ByteArray × List UInt8)} (h : IM w w.heap.size A l) (hb : Below w.heap.size w w') : IM w' w'.heap.size A l := (h.below hb).mono hb.size
theorem IM.drewN {w : World} {B : Nat} {A : Option Addr} {l : List (ByteArray × List UInt8)} (h : IM w B A l) (k : Nat) : IM (w.drewN k) B A l := h.below (below_drewN (Below.refl _ _) k)
theorem FLs.im {w : World} {base : Nat} {fs : List (ByteArray × List UInt8)} {us : List Value} {b : Option Addr} {n cap : Nat} (h : FLs w base fs us (.slice b n cap)) : IM w w.heap.size b fs := by
  intro i p hp
  obtain ⟨h1, h2, h3⟩ := h
  have hi : i < fs.length := (List.getElem?_eq_some_iff.1 hp).1
  obtain ⟨u, hu⟩ : ∃ u, us[i]? = some u := ⟨_, List.getElem?_eq_getElem (by rw [h1]; exact hi)⟩
  obtain ⟨x, c, rfl, hr⟩ := h3 i p u hp hu
  have hz : (fs.zip us)[i]? = some (p, .slice x p.2.length c) := by rw [List.getElem?_zip_eq_some]; exact ⟨hp, hu⟩
  obtain ⟨g1, g2⟩ := flat2 _ _ _ hz
  have hn : 0 < fs.length := by omega
  have hrd : Rd w w.heap.size b ((fs.zip us).flatMap fcell) := by
    obtain ⟨g, cap', e, _, _, ho⟩ := Own.of_row h2 hn
    injection e with e1 _ _
    subst e1
    exact Own.rd_pre (ts := []) (by rw [List.append_nil]; exact ho)
  obtain ⟨ad, rfl, hb, c0⟩ := hrd _ _ g1
  obtain ⟨ad', e, _, c1⟩ := hrd _ _ g2
  cases e
  rw [← add_add'] at c1
  exact ⟨ad, x, c, rfl, hb, c0, c1, row_rd hr⟩
def sumL (l : List (ByteArray × List UInt8)) : Nat := (l.map fun p => p.2.length).sum
theorem sumL_snoc (l : List (ByteArray × List UInt8)) (p : ByteArray × List UInt8) : sumL (l ++ [p]) = sumL l + p.2.length := by simp [sumL]
theorem sumL_take (l : List (ByteArray × List UInt8)) (k : Nat) : sumL (l.take k) ≤ sumL l := by
  have e : sumL l = sumL (l.take k) + sumL (l.drop k) := by
    conv => lhs; rw [← List.take_append_drop k l]
    unfold sumL
    rw [List.map_append, List.sum_append]
  omega
end Go.Proofs.Ytnecafhakkjbpaa
