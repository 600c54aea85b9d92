import Derived.Test.YtebeefkibbbkdaaRows
import Derived.Test.YtebeefkibbbkdaaMem
/- Words: bytes as cells, rows of the call's own. -/
namespace Go.Proofs.Ytebeefkibbbkdaa
open Go.RowKit Go.Maps

theorem info_u8 : (Try.prog.info? 5).map (fun i => (i.zero, i.size, i.bytes)) = some (some (.int .u8 0), 1, 1) := by kernel_rfl
/-- Bytes as cells. -/
def bv (l : List UInt8) : List Value := l.map fun c => .int .u8 c.toNat
theorem bv_len (l : List UInt8) : (bv l).length = l.length := by simp [bv]
theorem bv_app (a b : List UInt8) : bv (a ++ b) = bv a ++ bv b := by simp [bv]
theorem bv_take (l : List UInt8) (n : Nat) : bv (l.take n) = (bv l).take n := by simp [bv, List.map_take]
theorem bv_drop (l : List UInt8) (n : Nat) : bv (l.drop n) = (bv l).drop n := by simp [bv, List.map_drop]
theorem bv_get {l : List UInt8} {k : Nat} (h : k < l.length) : (bv l)[k]? = some (.int .u8 l[k].toNat) := by simp [bv, h]
theorem bv_inj {a b : List UInt8} (h : bv a = bv b) : a = b := by
  induction a generalizing b with
  | nil => cases b with
    | nil => rfl
    | cons y b => simp [bv] at h
  | cons x a ih => cases b with
    | nil => simp [bv] at h
    | cons y b =>
      simp only [bv, List.map_cons, List.cons.injEq, Value.int.injEq, true_and] at h
      have h1 : x = y := UInt8.toNat_inj.1 (by omega)
      rw [h1, ih h.2]
theorem one_bv (l : List UInt8) : ∀ u ∈ bv l, u.oneCell' = true := by
  intro u hu; obtain ⟨x, _, rfl⟩ := List.mem_map.1 hu; rfl
theorem nil_own (w : World) (B : Nat) (t : TypeId) (size : Nat) : w.ownsRow B t size (.slice none 0 0) 0 [] := World.ownsRow_nil w B t size
theorem below_drew {B : Nat} {a w : World} (h : Below B a w) : Below B a w.drew := ⟨h.os, h.tape, h.output, h.size, h.block⟩
theorem Below.al (W : World) (o : Obj) : Below W.heap.size W (W.alloc o) := (Below.refl _ _).alloc (Nat.le_refl _) o
theorem bel_next {w W W' : World} (h : Below w.heap.size w W) (hb : Below W.heap.size W W') : Below w.heap.size w W' := h.trans (hb.mono h.size)
theorem Box.next {W W' : World} {bl : Nat} {t : TypeId} {ar : Array Value} (h : Box W bl t ar) (hb : Below W.heap.size W W') : Box W' bl t ar := h.below hb h.lt
theorem Own.next {W W' : World} {B g : Nat} {t : TypeId} {cs : List Value} (h : Own W B g t cs) (hb : Below W.heap.size W W') : Own W' B g t cs := h.below hb h.lt
theorem Rd.next {W W' : World} {A : Option Addr} {xs : List Value} (h : Rd W W.heap.size A xs) (hb : Below W.heap.size W W') : Rd W' W'.heap.size A xs := (h.below hb).mono hb.size

section
variable {w w' : World} {base size n c : Nat} {e : TypeId} {v : Value} {b : Option Addr} {xs : List Value}
theorem row_slice (h : w.ownsRow base e size v n xs) : ∃ b cap, v = .slice b n cap := by
  rcases h.2 with ⟨rfl, e⟩ | ⟨g, cap, _, rfl, _⟩
  · exact ⟨none, 0, by rw [e]⟩
  · exact ⟨_, _, rfl⟩
theorem row_rd (h : w.ownsRow base e size (.slice b n c) n xs) : Rd w w.heap.size b xs := by
  intro j u hj
  rcases h.2 with ⟨hv, hn⟩ | ⟨g, c, cur, hv, _⟩
  · have := h.1
    have := (List.getElem?_eq_some_iff.1 hj).1
    subst hn; omega
  · injection hv with hv
    subst hv
    refine ⟨_, rfl, ?_, h.cells (g := g) rfl j u hj⟩
    exact (h.lt g rfl).2
theorem row_block (h : w.ownsRow base e size v n xs) (hb : ∀ k, v.ownBlock = some k → w'.heap[k]? = w.heap[k]?) : w'.ownsRow base e size v n xs := by
  refine ⟨h.1, ?_⟩
  rcases h.2 with h2 | ⟨g, cap, cur, hv, hg, hh, r⟩
  · exact .inl h2
  · exact .inr ⟨g, cap, cur, hv, hg, by rw [hb g (by rw [hv]; rfl)]; exact hh, r⟩
theorem row_next (h : w.ownsRow base e size v n xs) (hb : Below w.heap.size w w') : w'.ownsRow base e size v n xs := row_block h fun k hk => hb.block k (h.lt k hk).2
theorem row_cap (h : w.ownsRow base e size (.slice b n c) n xs) : n ≤ c := by
  rcases h.2 with ⟨hv, h0⟩ | ⟨g, c', cur, hv, _, _, hnc, _⟩
  · omega
  · injection hv with _ _ e2
    omega
theorem row_le {base' : Nat} (h : w.ownsRow base e size v n xs) (hb : base' ≤ base) : w.ownsRow base' e size v n xs := by
  refine ⟨h.1, ?_⟩
  rcases h.2 with h | ⟨g, c, cur, hv, h1, h2⟩
  · exact .inl h
  · exact .inr ⟨g, c, cur, hv, Nat.le_trans hb h1, h2⟩
theorem row_far (h : w.ownsRow base e size v n xs) {p : Addr} (hv : ∀ k, v.ownBlock = some k → k ≠ p.block) (u : Value) : (w.setCell p u).ownsRow base e size v n xs :=
  row_block h fun k hk => Below.heap_setCell w p u k (hv k hk)
theorem row_put {g cap i : Nat} (h : w.ownsRow base e size (.slice (some ⟨g, 0, none⟩) n cap) n xs) (u : Value) : (w.setCell ⟨g, i, none⟩ u).ownsRow base e size (.slice (some ⟨g, 0, none⟩) n cap) n (xs.set i u) := by
  obtain ⟨h1, h2⟩ := h
  refine ⟨by simpa using h1, ?_⟩
  rcases h2 with ⟨hv, _⟩ | ⟨g', cap', cur, hv, hg, hh, hnc, hcm, hsz, htk⟩
  · cases hv
  · cases hv
    refine .inr ⟨g, cap, cur.setIfInBounds i u, rfl, hg, Box.set_ (show Box w g e cur from hh) i u, hnc, hcm, by simpa using hsz, ?_⟩
    rw [Array.toList_setIfInBounds, List.take_set, htk]
end
theorem Own.get {w : World} {B g : Nat} {t : TypeId} {cs : List Value} (h : Own w B g t cs) {i : Nat} {u : Value} (hi : cs[i]? = some u) : w.cell? ⟨g, i, none⟩ = some u := by
  have hl := (List.getElem?_eq_some_iff.1 hi).1
  rw [h.cell hl, ← hi, List.getElem?_eq_getElem hl]
theorem Own.rd_pre {w : World} {B g : Nat} {t : TypeId} {xs ts : List Value} (h : Own w B g t (xs ++ ts)) : Rd w w.heap.size (some ⟨g, 0, none⟩) xs :=
  h.rd h.lt fun j u hj => by rw [List.getElem?_append_left (List.getElem?_eq_some_iff.1 hj).1]; exact hj
theorem Own.tail {w : World} {B g : Nat} {t : TypeId} {xs ts : List Value} (h : Own w B g t (xs ++ ts)) {n j : Nat} (hn : xs.length = n) {u : Value} (hu : ts[j]? = some u) : w.cell? ⟨g, n + j, none⟩ = some u :=
  h.get (by rw [List.getElem?_append_right (by omega), hn, Nat.add_sub_cancel_left]; exact hu)
theorem Chg.grown {S : Nat → Prop} {a w w' : World} {row : Option Nat} (h : Chg S a w) (hg : w.grownBy w' row) (hr : ∀ k, row = some k → S k ∨ a.heap.size ≤ k) : Chg S a w' :=
  ⟨hg.os.trans h.os, hg.tape.trans h.tape, hg.output.trans h.output, Nat.le_trans h.size hg.size, fun k hk hn => (hg.block k (Nat.lt_of_lt_of_le hk h.size) fun e => by
    rcases hr k e.symm with h1 | h1
    · exact hn h1
    · omega).trans (h.block k hk hn)⟩
theorem Chg.next {S : Nat → Prop} {a w w' : World} (h : Chg S a w) (hb : Below w.heap.size w w') : Chg S a w' := h.trans (Chg.of_below hb S)
end Go.Proofs.Ytebeefkibbbkdaa
