import Derived.Test.YtociadicjbkjcaaKd17
import Derived.Deep.DeepCutAuto
namespace Go.Proofs.Ytociadicjbkjcaa
open Go.RowKit Go.Maps

theorem put_un (d : Nat) (key : ByteArray) (en : En) (xs : List KE) (w : World) (h : DR w d xs) (hz : key.size ≤ maxLen) (hc : xs.length ≤ 800000000000000) :
    Calls Try.prog 21 #[.pointer (some ⟨d, 0, none⟩), .string key, en.v] w fun e w' => (∃ v, e = .returned v) ∧ DR w' d (bstep xs (key, en)) ∧ Dch d w w' := by
  unfold bstep
  by_cases hg : goodB key = true
  · rw [if_pos hg]
    exact (put_ok d key en xs w h (by simpa [goodB] using hg) hc).mono fun e w' ⟨h1, h2, h3⟩ => ⟨⟨_, h1⟩, h2, h3⟩
  · rw [if_neg hg]
    exact (put_bad d key en w (by simpa [goodB] using hg) hz).mono fun e w' ⟨h1, h2⟩ => ⟨⟨_, h1⟩, h.next h2, Chg.of_below h2 _⟩
def rstep (xs : List KE) (key : ByteArray) : List KE := if getL key xs = none then xs else delL key xs
theorem rstep_len (xs : List KE) (key : ByteArray) : (rstep xs key).length ≤ xs.length := by
  unfold rstep
  split
  · exact Nat.le_refl _
  · exact del_len _ _
theorem rem_un (d : Nat) (key : ByteArray) (xs : List KE) (w : World) (h : DR w d xs) (hz : key.size ≤ maxLen) (hc : xs.length ≤ 800000000000000) :
    Calls Try.prog 19 #[.pointer (some ⟨d, 0, none⟩), .string key] w fun e w' => (∃ v, e = .returned v) ∧ DR w' d (rstep xs key) ∧ Dch d w w' := by
  unfold rstep
  cases hg : getL key xs with
  | none =>
    rw [if_pos rfl]
    exact (rem_no d key xs w h hz hg).mono fun e w' ⟨h1, h2⟩ => ⟨⟨_, h1⟩, h.next h2, Chg.of_below h2 _⟩
  | some o =>
    rw [if_neg (by simp)]
    exact (rem_yes d key xs w h hz hc o hg).mono fun e w' ⟨h1, h2, h3⟩ => ⟨⟨_, h1⟩, h2, h3⟩
def pstep (xs : List KE) (key : ByteArray) (off seg at_ : Int) : List KE := match getL key xs with
  | none => xs
  | some o => if o.off = off then putL key ⟨seg, at_, o.size, o.off, o.time, o.tomb⟩ xs else xs
theorem pstep_len (xs : List KE) (key : ByteArray) (off seg at_ : Int) : (pstep xs key off seg at_).length ≤ xs.length + 1 := by
  unfold pstep
  split
  · omega
  · split
    · exact put_len _ _ _
    · omega
theorem point_un (d : Nat) (key : ByteArray) (off seg at_ : Int) (xs : List KE) (w : World) (h : DR w d xs) (hz : key.size ≤ maxLen) (hc : xs.length ≤ 800000000000000) :
    Calls Try.prog 22 #[.pointer (some ⟨d, 0, none⟩), .string key, .int .i64 off, .int .i64 seg, .int .i64 at_] w fun e w' => (∃ v, e = .returned v) ∧ DR w' d (pstep xs key off seg at_) ∧ Dch d w w' := by
  unfold pstep
  cases hg : getL key xs with
  | none => exact (point_none d key off seg at_ xs w h hz hg).mono fun e w' ⟨h1, h2⟩ => ⟨⟨_, h1⟩, h.next h2, Chg.of_below h2 _⟩
  | some o =>
    simp only
    by_cases ho : o.off = off
    · rw [if_pos ho]
      exact (point_yes d key off seg at_ xs w h hz hc o hg ho).mono fun e w' ⟨h1, h2, h3⟩ => ⟨⟨_, h1⟩, h2, h3⟩
    · rw [if_neg ho]
      exact (point_other d key off seg at_ xs w h hz o hg ho).mono fun e w' ⟨h1, h2⟩ => ⟨⟨_, h1⟩, h.next h2, Chg.of_below h2 _⟩

/-- Four dirs of the law's own. -/
structure FS (w : World) (d x y f : Nat) (A B C D : List KE) (W : World) : Prop where
  rd : DR W d A
  rx : DR W x B
  ry : DR W y C
  rf : DR W f D
  below : Below w.heap.size w W
  low : w.heap.size ≤ d ∧ w.heap.size ≤ x ∧ w.heap.size ≤ y ∧ w.heap.size ≤ f
  far : d ≠ x ∧ d ≠ y ∧ d ≠ f ∧ x ≠ y ∧ x ≠ f ∧ y ≠ f
section
variable {w W W' : World} {d x y f : Nat} {A B C D A' : List KE}
theorem FS.next (s : FS w d x y f A B C D W) (hb : Below W.heap.size W W') : FS w d x y f A B C D W' :=
  ⟨s.rd.next hb, s.rx.next hb, s.ry.next hb, s.rf.next hb, s.below.trans (hb.mono s.below.size), s.low, s.far⟩
theorem DR.dch {W W' : World} {k d : Nat} {A B : List KE} (h : DR W k B) (hk : DR W d A) (hc : Dch d W W') (hne : k ≠ d) : DR W' k B := h.chg hc (fun j hj cs => by subst hj; exact hk.not cs) hne
theorem FS.upd {k : Nat} (s : FS w d x y f A B C D W) (hk : w.heap.size ≤ k) (hc : Dch k W W') : Below w.heap.size w W' := dch_below s.below (Below.refl _ _) hc hk
theorem FS.ud (s : FS w d x y f A B C D W) (hc : Dch d W W') (h : DR W' d A') : FS w d x y f A' B C D W' :=
  ⟨h, s.rx.dch s.rd hc s.far.1.symm, s.ry.dch s.rd hc s.far.2.1.symm, s.rf.dch s.rd hc s.far.2.2.1.symm, s.upd s.low.1 hc, s.low, s.far⟩
theorem FS.ux (s : FS w d x y f A B C D W) (hc : Dch x W W') (h : DR W' x A') : FS w d x y f A A' C D W' :=
  ⟨s.rd.dch s.rx hc s.far.1, h, s.ry.dch s.rx hc s.far.2.2.2.1.symm, s.rf.dch s.rx hc s.far.2.2.2.2.1.symm, s.upd s.low.2.1 hc, s.low, s.far⟩
theorem FS.uy (s : FS w d x y f A B C D W) (hc : Dch y W W') (h : DR W' y A') : FS w d x y f A B A' D W' :=
  ⟨s.rd.dch s.ry hc s.far.2.1, s.rx.dch s.ry hc s.far.2.2.2.1, h, s.rf.dch s.ry hc s.far.2.2.2.2.2.symm, s.upd s.low.2.2.1 hc, s.low, s.far⟩
theorem FS.uf (s : FS w d x y f A B C D W) (hc : Dch f W W') (h : DR W' f A') : FS w d x y f A B C A' W' :=
  ⟨s.rd.dch s.rf hc s.far.2.2.1, s.rx.dch s.rf hc s.far.2.2.2.2.1, s.ry.dch s.rf hc s.far.2.2.2.2.2, h, s.upd s.low.2.2.2 hc, s.low, s.far⟩
end
theorem row_rd {w : World} {B : Nat} {e : TypeId} {size n : Nat} {v : Value} {xs : List Value} (h : w.ownsRow B e size v n xs) : ∃ (A : Option Addr) (c : Nat), v = .slice A n c ∧ Rd w w.heap.size A xs := by
  rcases Nat.eq_zero_or_pos n with hn | hn
  · subst hn
    have hx : xs = [] := List.length_eq_zero_iff.1 (by have := h.1; omega)
    rcases h.2 with ⟨rfl, _⟩ | ⟨g, cap, cur, rfl, _⟩
    · exact ⟨none, 0, rfl, by rw [hx]; exact Rd.nil _ _ _⟩
    · exact ⟨_, cap, rfl, by rw [hx]; exact Rd.nil _ _ _⟩
  · obtain ⟨g, cap, hv, _, _, ho⟩ := Own.of_row h hn
    exact ⟨_, cap, hv, ho.rd ho.lt fun _ _ h => h⟩
/-- The i-th text of a row of texts. -/
theorem Rd.str {w : World} {B : Nat} {A : Option Addr} {l : List ByteArray} (h : Rd w B A (l.map Value.string)) {i : Nat} (hi : i < l.length) : ∃ ad : Addr, A = some ad ∧ ad.block < B ∧ w.cell? (ad.add i) = some (.string l[i]) := by
  obtain ⟨ad, rfl, hb, hc⟩ := h i (.string l[i]) (by simp [hi])
  exact ⟨ad, rfl, hb, hc⟩
end Go.Proofs.Ytociadicjbkjcaa
