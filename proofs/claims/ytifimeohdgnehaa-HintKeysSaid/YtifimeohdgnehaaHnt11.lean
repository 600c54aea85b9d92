import Derived.Test.YtifimeohdgnehaaBeq
import Derived.Test.YtifimeohdgnehaaHnt9
namespace Go.Proofs.Ytifimeohdgnehaa
open Go.RowKit Go.Maps

/-- The bytes of the entries from the k-th on. -/
def entsTail (l : List HE) (k : Nat) : List UInt8 := (entsB l l.length).drop (entsB l k).length
theorem entsB_pre (l : List HE) : ∀ (d k : Nat), entsB l (k + d) = entsB l k ++ (entsB l (k + d)).drop (entsB l k).length := by
  intro d k
  induction d with
  | zero => simp
  | succ d ih =>
    rw [← Nat.add_assoc, entsB]
    generalize entB (offAt l (k + d)) (endAt l (k + d)) (nth l (k + d)) = x
    rw [ih]
    generalize (entsB l (k + d)).drop (entsB l k).length = y
    rw [List.append_assoc, List.drop_left]
theorem entsTail_zero (l : List HE) : entsTail l 0 = entsB l l.length := rfl
theorem entsTail_all (l : List HE) : entsTail l l.length = [] := List.drop_length
theorem entsTail_succ (l : List HE) {k : Nat} (hk : k < l.length) : entsTail l k = entB (offAt l k) (endAt l k) (nth l k) ++ entsTail l (k + 1) := by
  have h1 := entsB_pre l (l.length - (k + 1)) (k + 1)
  rw [show k + 1 + (l.length - (k + 1)) = l.length by omega] at h1
  have e : entsTail l (k + 1) = (entsB l l.length).drop (entsB l (k + 1)).length := rfl
  rw [← e] at h1
  show (entsB l l.length).drop (entsB l k).length = _
  rw [h1, entsB, List.append_assoc, List.drop_left]
theorem entsTail_pos (l : List HE) {k : Nat} (hk : k < l.length) : entsTail l k ≠ [] := by
  rw [entsTail_succ l hk, entB, uvarI]
  intro h
  have h0 := congrArg List.length h
  have := uvar_pos ((nth l k).off - offAt l k).toNat
  simp only [List.length_append, List.length_nil] at h0
  omega
theorem bodyH_split (seg size : Int) (l : List HE) : bodyH seg size l = uvar seg.toNat ++ (uvar size.toNat ++ (uvar l.length ++ entsTail l 0)) := by
  simp [bodyH, uvarI, entsTail_zero, List.append_assoc]
theorem encH_drop {seg size : Int} {l : List HE} (h : HintR seg size l) {bs : List UInt8} (hb : encH seg size l = bs) : bs.drop 9 = bodyH seg size l := by
  rw [← hb, show encH seg size l = wrapB 177 (bodyH seg size l) from if_pos h]
  rfl
theorem take_snoc {α : Type} (l : List α) (k : Nat) (h : k < l.length) : l.take (k + 1) = l.take k ++ [l[k]] := by
  rw [List.take_succ_eq_append_getElem h]
/-- Where a reading of a right hint's bytes stands behind k entries. -/
structure CanAt (l : List UInt8) (H : List HE) (k : Nat) (s : RSt) (off en : Int) (ents : List HE) : Prop where
  fl : s.fl = false
  rest : l.drop s.at_ = entsTail H k
  off_ : off = offAt H k
  en_ : en = endAt H k
  ents_ : ents = H.take k
  le : k ≤ H.length
/-- One entry read from there. -/
theorem CanAt.next {l : List UInt8} {seg size : Int} {H : List HE} {k : Nat} {s s1 s2 s3 s4 s5 : RSt} {off en : Int} {ents : List HE} {v1 v2 v3 v4 : Nat} {t : List UInt8}
    (hr : HintR seg size H) (h : CanAt l H k s off en ents) (hk : k < H.length) (h1 : uvS l s = (v1, s1)) (h2 : uvS l s1 = (v2, s2)) (h3 : uvS l s2 = (v3, s3)) (h4 : uvS l s3 = (v4, s4)) (h5 : txS 64 l s4 = (t, s5)) :
    v1 = ((nth H k).off - offAt H k).toNat ∧ v2 = (nth H k).time.toNat ∧ v3 = ((nth H k).pos - endAt H k).toNat ∧ v4 = (longOf (nth H k)).toNat ∧ t = (nth H k).key.data.toList ∧ s5.fl = false ∧ l.drop s5.at_ = entsTail H (k + 1) := by
  have he := hr.2.2.2.2.1 k hk
  obtain ⟨e1, e2, e3, e4, e5, e6, e7, e8, e9, e10⟩ := he
  obtain ⟨f1, f2, f3, _⟩ := hint_ends hr k (by omega)
  have hsz := hr.2.2.2.1
  have r0 := h.rest
  rw [entsTail_succ H hk, entB] at r0
  simp only [List.append_assoc] at r0
  have c1 := uvS_canon h.fl r0 (by omega)
  rw [h1] at c1
  have c2 := uvS_canon c1.2.1 c1.2.2 (by omega)
  simp only at c2
  rw [h2] at c2
  have c3 := uvS_canon c2.2.1 c2.2.2 (by omega)
  simp only at c3
  rw [h3] at c3
  have hlo : (longOf (nth H k)).toNat < 18446744073709551616 := by unfold longOf; split <;> omega
  have c4 := uvS_canon c3.2.1 c3.2.2 hlo
  simp only at c4
  rw [h4] at c4
  have c5 := txS_canon (m := 64) c4.2.1 c4.2.2 e2 (by omega)
  simp only at c5
  rw [h5] at c5
  exact ⟨c1.1, c2.1, c3.1, c4.1, c5.1, c5.2.1, c5.2.2⟩
end Go.Proofs.Ytifimeohdgnehaa
