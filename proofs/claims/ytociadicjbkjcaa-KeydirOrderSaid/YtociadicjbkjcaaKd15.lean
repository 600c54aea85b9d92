import Derived.Test.YtociadicjbkjcaaKd14
namespace Go.Proofs.Ytociadicjbkjcaa
open Go.RowKit Go.Maps

set_option maxRecDepth 100000 in
set_option maxHeartbeats 8000000 in
theorem point_yes (d : Nat) (key : ByteArray) (off seg at_ : Int) (xs : List KE) (w : World) (h : DR w d xs) (hz : key.size ≤ maxLen) (hc : xs.length ≤ 800000000000000) (o : En) (hg : getL key xs = some o) (ho : o.off = off) :
    Calls Try.prog 22 #[.pointer (some ⟨d, 0, none⟩), .string key, .int .i64 off, .int .i64 seg, .int .i64 at_] w fun e w' => e = .returned (.bool true) ∧ DR w' d (putL key ⟨seg, at_, o.size, o.off, o.time, o.tomb⟩ xs) ∧ Dch d w w' := by
  obtain ⟨t, p, h1, h2, rfl, h4, h5⟩ := h
  have H := Lib.hid (And.intro h1 (And.intro h2 (And.intro h4 h5)))
  have HG := Lib.hid (show entV (getL key t.flat) = .tuple #[o.v, .bool true] by rw [hg]; rfl)
  have hkz := h5 _ ((get_mem h4).1 hg)
  have hcn : t.cnt ≤ 800000000000000 := hc
  subst ho
  clear hc hg
  clear h1 h2 h4 h5
  go_enter Try.func22, Try.ntmps22
  go_wp2_with (first
    | (go_at_call 14
       refine (get_any d key t.flat _ ⟨t, p, H.out.1, H.out.2.1, rfl, H.out.2.2.1, H.out.2.2.2⟩ hz).mono ?_
       rintro e w1 ⟨rfl, hb1⟩
       rw [HG.out]
       have hq3 := H.out.1.below hb1 H.out.1.lt
       have hc3 := hq3.cell
       have hf3 := hq3.free
       have hl3 := hq3.lt
       have H1 := Lib.hid (And.intro hb1 (And.intro hq3 (H.out.2.1.below hb1)))
       clear hb1 hq3))
  go_region_with (first
    | (go_at_call 36
       (with_reducible refine (with_any key ⟨seg, at_, o.size, o.off, o.time, o.tomb⟩ hkz t p _ ?_ ?_ ?_ ?_).mono ?_)
       · exact H1.out.2.2.below (bal w1 _).drew
       · exact H.out.2.2.1
       · exact H.out.2.2.2
       · exact hcn
       rintro e w2 ⟨t2, p2, rfl, f2, g2, b2⟩
       have b12 : Below w1.heap.size w1 w2 := ((bal w1 (.cells #[.int .i64 seg, .int .i64 at_, .int .i64 o.size, .int .i64 o.off, .int .i64 o.time, .bool o.tomb] 26)).drew).trans (b2.mono (by simp))
       have hq3 := H1.out.2.1.below b12 hl3
       have hc33 := hq3.cell
       have hf33 := hq3.free
       have hl33 := hq3.lt
       have H2 := Lib.hid (And.intro f2 (And.intro g2 (And.intro (H1.out.1.trans (b12.mono H1.out.1.size)) hq3)))
       clear f2 g2 b2 b12 hq3))
  all_goals
    go_wp2
    go_ret
    exact ⟨rfl, DR.root H2.out.2.2.2 H2.out.2.1 H2.out.1 (H.out.2.2.1.put _ _) (H.out.2.2.2.put hkz), (Chg.of_below H2.out.2.2.1 (fun k => k = d)).setCell (p := ⟨d, 0, none⟩) (.inl rfl) _⟩

set_option maxRecDepth 100000 in
set_option maxHeartbeats 8000000 in
theorem point_none (d : Nat) (key : ByteArray) (off seg at_ : Int) (xs : List KE) (w : World) (h : DR w d xs) (hz : key.size ≤ maxLen) (hg : getL key xs = none) :
    Calls Try.prog 22 #[.pointer (some ⟨d, 0, none⟩), .string key, .int .i64 off, .int .i64 seg, .int .i64 at_] w fun e w' => e = .returned (.bool false) ∧ Below w.heap.size w w' := by
  obtain ⟨t, p, h1, h2, rfl, h4, h5⟩ := h
  have H := Lib.hid (And.intro h1 (And.intro h2 (And.intro h4 h5)))
  have HG := Lib.hid (show entV (getL key t.flat) = .tuple #[En.zero.v, .bool false] by rw [hg]; rfl)
  clear hg
  generalize En.zero = o at HG
  clear h1 h2 h4 h5
  go_enter Try.func22, Try.ntmps22
  go_wp2_with (first
    | (go_at_call 14
       refine (get_any d key t.flat _ ⟨t, p, H.out.1, H.out.2.1, rfl, H.out.2.2.1, H.out.2.2.2⟩ hz).mono ?_
       rintro e w1 ⟨rfl, hb1⟩
       rw [HG.out]
       have hq3 := H.out.1.below hb1 H.out.1.lt
       have hc3 := hq3.cell
       have hf3 := hq3.free
       have hl3 := hq3.lt
       have H1 := Lib.hid (And.intro hb1 (And.intro hq3 (H.out.2.1.below hb1)))
       clear hb1 hq3))
  go_ret
  exact ⟨rfl, H1.out.1.alloc H1.out.1.size _⟩

set_option maxRecDepth 100000 in
set_option maxHeartbeats 8000000 in
theorem point_other (d : Nat) (key : ByteArray) (off seg at_ : Int) (xs : List KE) (w : World) (h : DR w d xs) (hz : key.size ≤ maxLen) (o : En) (hg : getL key xs = some o) (ho : ¬ o.off = off) :
    Calls Try.prog 22 #[.pointer (some ⟨d, 0, none⟩), .string key, .int .i64 off, .int .i64 seg, .int .i64 at_] w fun e w' => e = .returned (.bool false) ∧ Below w.heap.size w w' := by
  obtain ⟨t, p, h1, h2, rfl, h4, h5⟩ := h
  have H := Lib.hid (And.intro h1 (And.intro h2 (And.intro h4 h5)))
  have HG := Lib.hid (show entV (getL key t.flat) = .tuple #[o.v, .bool true] by rw [hg]; rfl)
  have hne : (o.off != off) = true := by simpa using ho
  clear hg
  clear h1 h2 h4 h5
  go_enter Try.func22, Try.ntmps22
  go_wp2_with (first
    | (go_at_call 14
       refine (get_any d key t.flat _ ⟨t, p, H.out.1, H.out.2.1, rfl, H.out.2.2.1, H.out.2.2.2⟩ hz).mono ?_
       rintro e w1 ⟨rfl, hb1⟩
       rw [HG.out]
       have hq3 := H.out.1.below hb1 H.out.1.lt
       have hc3 := hq3.cell
       have hf3 := hq3.free
       have hl3 := hq3.lt
       have H1 := Lib.hid (And.intro hb1 (And.intro hq3 (H.out.2.1.below hb1)))
       clear hb1 hq3))
  go_ret
  exact ⟨rfl, H1.out.1.alloc H1.out.1.size _⟩

def goodB (k : ByteArray) : Bool := decide (1 ≤ k.size ∧ k.size ≤ 64)
set_option maxRecDepth 100000 in
theorem good_any (key : ByteArray) (w : World) (hz : key.size ≤ maxLen) : Calls Try.prog 11 #[.string key] w fun e w' => e = .returned (.bool (goodB key)) ∧ w = w' := by
  unfold maxLen at hz
  have hg : ∀ b : Bool, (b = true ↔ (1 ≤ key.size ∧ key.size ≤ 64)) → goodB key = b := fun b h => by unfold goodB; rw [Bool.eq_iff_iff, decide_eq_true_eq]; exact h.symm
  have HG := Lib.hid hg
  clear hg
  rcases (show key.size < 1 ∨ (1 ≤ key.size ∧ key.size ≤ 64) ∨ (1 ≤ key.size ∧ 64 < key.size) by omega) with h1 | ⟨h1, h2⟩ | ⟨h1, h2⟩
  all_goals
    go_enter Try.func11, Try.ntmps11
    go_wp2
    go_ret
    refine ⟨ret_bool (HG.out _ ?_).symm, rfl⟩
    simp <;> omega
/-- Row of KeyEntries: the k-th. -/
theorem ke_get (l : List KE) (i : Nat) (hi : i < l.length) : ∀ j (u : Value), (keC l[i])[j]? = some u → (l.flatMap keC)[i * 7 + j]? = some u := by
  induction l generalizing i with
  | nil => simp at hi
  | cons p l ih =>
    intro j u hj
    cases i with
    | zero =>
      have hl := (List.getElem?_eq_some_iff.1 hj).1
      simp only [List.flatMap_cons, List.getElem_cons_zero, Nat.zero_mul, Nat.zero_add] at hj hl ⊢
      rw [List.getElem?_append_left hl]; exact hj
    | succ i =>
      simp only [List.flatMap_cons, List.getElem_cons_succ] at hj ⊢
      have hl : (keC p).length = 7 := rfl
      rw [List.getElem?_append_right (by omega), hl, show (i + 1) * 7 + j - 7 = i * 7 + j by omega]
      exact ih i (by simpa using hi) j u hj
/-- The cells of the i-th item of a row that reads as l. -/
theorem Rd.ke {w : World} {B : Nat} {A : Option Addr} {l : List KE} (h : Rd w B A (l.flatMap keC)) {i : Nat} (hi : i < l.length) : ∃ ad : Addr, A = some ad ∧ ad.block < B ∧ w.cell? (ad.add (i * 7)) = some (.string l[i].1) ∧
    w.cell? ⟨(ad.add (i * 7)).block, (ad.add (i * 7)).off + 1, none⟩ = some (.int .i64 l[i].2.seg) ∧ w.cell? ⟨(ad.add (i * 7)).block, (ad.add (i * 7)).off + 2, none⟩ = some (.int .i64 l[i].2.at_) ∧ w.cell? ⟨(ad.add (i * 7)).block, (ad.add (i * 7)).off + 3, none⟩ = some (.int .i64 l[i].2.size) ∧
    w.cell? ⟨(ad.add (i * 7)).block, (ad.add (i * 7)).off + 4, none⟩ = some (.int .i64 l[i].2.off) ∧ w.cell? ⟨(ad.add (i * 7)).block, (ad.add (i * 7)).off + 5, none⟩ = some (.int .i64 l[i].2.time) ∧ w.cell? ⟨(ad.add (i * 7)).block, (ad.add (i * 7)).off + 6, none⟩ = some (.bool l[i].2.tomb) := by
  have g := ke_get l i hi
  obtain ⟨ad, rfl, hb, c0⟩ := h _ _ (g 0 _ rfl)
  refine ⟨ad, rfl, hb, c0, ?_, ?_, ?_, ?_, ?_, ?_⟩
  · obtain ⟨a', e, _, c⟩ := h _ _ (g 1 _ rfl); cases e; rw [← add_add'] at c; exact c
  · obtain ⟨a', e, _, c⟩ := h _ _ (g 2 _ rfl); cases e; rw [← add_add'] at c; exact c
  · obtain ⟨a', e, _, c⟩ := h _ _ (g 3 _ rfl); cases e; rw [← add_add'] at c; exact c
  · obtain ⟨a', e, _, c⟩ := h _ _ (g 4 _ rfl); cases e; rw [← add_add'] at c; exact c
  · obtain ⟨a', e, _, c⟩ := h _ _ (g 5 _ rfl); cases e; rw [← add_add'] at c; exact c
  · obtain ⟨a', e, _, c⟩ := h _ _ (g 6 _ rfl); cases e; rw [← add_add'] at c; exact c
end Go.Proofs.Ytociadicjbkjcaa
