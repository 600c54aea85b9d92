import Derived.Test.YtbmbgkgjlnookaaDoorOMan9
import Derived.StillTailTactics
namespace Go.Proofs.YtbmbgkgjlnookaaDoor
open Go.RowKit Go.Maps

theorem wf_bounds {x : Int} (h : (Lit.int .i64 x).wf = true) : -9223372036854775808 ≤ x ∧ x ≤ 9223372036854775807 := by
  simp [Lit.wf, IntKind.min, IntKind.max, IntKind.signed, IntKind.bits] at h; omega
theorem Own.int {w : World} {B g : Nat} {t : TypeId} {k : IntKind} {l : List Int} {ts : List Value} (h : Own w B g t (l.map (Value.int k) ++ ts)) {i : Nat} (hi : i < l.length) : w.cell? ⟨g, i, none⟩ = some (.int k l[i]) := by
  rw [h.cell (by simp; omega)]; simp [List.getElem_append_left, hi]
theorem Own.int_set {w : World} {B g : Nat} {t : TypeId} {k : IntKind} {l : List Int} {ts : List Value} (h : Own w B g t (l.map (Value.int k) ++ ts)) {i : Nat} (hi : i < l.length) (x : Int) :
    Own (w.setCell ⟨g, i, none⟩ (.int k x)) B g t ((l.set i x).map (Value.int k) ++ ts) := by
  have := h.set_ (i := i) (by simp; omega) (.int k x)
  rwa [List.set_append_left _ _ (by simpa using hi), ← List.map_set] at this

theorem tri_at (l : List P3) (ts : List Value) {i : Nat} (hi : i < l.length) :
    (l.flatMap tri ++ ts)[i * 3]? = some (.int .i64 l[i].1) ∧ (l.flatMap tri ++ ts)[i * 3 + 1]? = some (.int .i64 l[i].2.1) ∧ (l.flatMap tri ++ ts)[i * 3 + 2]? = some (.int .i64 l[i].2.2) := by
  obtain ⟨h1, h2, h3⟩ := tri_get l i hi
  have hl := tri_len l
  exact ⟨by rw [List.getElem?_append_left (by omega)]; exact h1, by rw [List.getElem?_append_left (by omega)]; exact h2, by rw [List.getElem?_append_left (by omega)]; exact h3⟩
theorem Own.get {w : World} {B g : Nat} {t : TypeId} {cs : List Value} (h : Own w B g t cs) {i : Nat} {u : Value} (hi : cs[i]? = some u) : w.cell? ⟨g, i, none⟩ = some u := by
  have hl := (List.getElem?_eq_some_iff.1 hi).1
  rw [h.cell hl, ← hi, List.getElem?_eq_getElem hl]
theorem Own.tri_ {w : World} {B g : Nat} {t : TypeId} {l : List P3} {ts : List Value} (h : Own w B g t (l.flatMap tri ++ ts)) {i : Nat} (hi : i < l.length) :
    w.cell? ⟨g, i * 3, none⟩ = some (.int .i64 l[i].1) ∧ w.cell? ⟨g, i * 3 + 1, none⟩ = some (.int .i64 l[i].2.1) ∧ w.cell? ⟨g, i * 3 + 2, none⟩ = some (.int .i64 l[i].2.2) :=
  let ⟨a, b, c⟩ := tri_at l ts hi; ⟨h.get a, h.get b, h.get c⟩
theorem flatMap_set3 (l : List P3) (i : Nat) (hi : i < l.length) (p : P3) : (l.set i p).flatMap tri = (((l.flatMap tri).set (i * 3) (.int .i64 p.1)).set (i * 3 + 1) (.int .i64 p.2.1)).set (i * 3 + 2) (.int .i64 p.2.2) := by
  induction l generalizing i with
  | nil => simp at hi
  | cons q l ih =>
    cases i with
    | zero => simp [tri]
    | succ i =>
      have e : (i + 1) * 3 = i * 3 + 3 := by omega
      have hl : (tri q).length = 3 := rfl
      simp only [List.set_cons_succ, List.flatMap_cons, ih i (by simpa using hi), e]
      rw [List.set_append_right _ _ (by omega), List.set_append_right _ _ (by omega), List.set_append_right _ _ (by omega), hl,
        show i * 3 + 3 - 3 = i * 3 by omega, show i * 3 + 3 + 1 - 3 = i * 3 + 1 by omega, show i * 3 + 3 + 2 - 3 = i * 3 + 2 by omega]
theorem set_get_self {α : Type} (l : List α) (i : Nat) (u : α) (h : l[i]? = some u) : l.set i u = l := by
  apply List.ext_getElem?
  intro j
  rw [List.getElem?_set]
  split
  · rename_i e; subst e
    split
    · exact h.symm
    · rename_i hn; rw [List.getElem?_eq_none (by omega)] at h; cases h
  · rfl
/-- Only the middle of the i-th is written. -/
theorem Own.tri_set {w : World} {B g : Nat} {t : TypeId} {l : List P3} {ts : List Value} (h : Own w B g t (l.flatMap tri ++ ts)) {i : Nat} (hi : i < l.length) (x : Int) :
    Own (w.setCell ⟨g, i * 3 + 1, none⟩ (.int .i64 x)) B g t ((l.set i (l[i].1, x, l[i].2.2)).flatMap tri ++ ts) := by
  have hl := tri_len l
  have := h.set_ (i := i * 3 + 1) (by rw [List.length_append]; omega) (.int .i64 x)
  rw [List.set_append_left _ _ (by omega)] at this
  obtain ⟨h1, h2, h3⟩ := tri_get l i hi
  rw [flatMap_set3 l i hi, set_get_self _ _ _ h1, List.set_comm _ _ (by omega), set_get_self _ _ _ h3]
  exact this

set_option maxRecDepth 100000 in
set_option maxHeartbeats 4000000 in
theorem moved_any (id ns nx mk cl : Int) (g h c d : Nat) (segs : List Int) (prods : List P3) (ts tp : List Value) (B : Nat) (w : World) (hO : Own w B g 3 (segs.map (.int .i64) ++ ts)) (hP : Own w B h 60 (prods.flatMap tri ++ tp)) (hgh : g ≠ h)
    (hmx : segs.length ≤ maxLen) (hmy : prods.length ≤ maxLen)
    (hw : ∀ s ∈ segs, (Lit.int .i64 s).wf = true) :
    Calls Tryd.prog 13 #[manV id ns nx mk cl (.slice (some ⟨g, 0, none⟩) segs.length c) (.slice (some ⟨h, 0, none⟩) prods.length d)] w fun e w' =>
      ∃ (segs' : List Int) (prods' : List P3), segs'.length = segs.length ∧ prods'.length = prods.length ∧ (∀ s ∈ segs', (Lit.int .i64 s).wf = true) ∧
        e = .returned (manV id ns nx mk cl (.slice (some ⟨g, 0, none⟩) segs.length c) (.slice (some ⟨h, 0, none⟩) prods.length d)) ∧
        Own w' B g 3 (segs'.map (.int .i64) ++ ts) ∧ Own w' B h 60 (prods'.flatMap tri ++ tp) ∧ Chg (fun k => k = g ∨ k = h) w w' := by
  have hgl := hO.lt
  have hhl := hP.lt
  unfold maxLen at hmx hmy
  have HO := Lib.hid hO
  have HP := Lib.hid hP
  clear hO hP
  go_enter Tryd.func13, Tryd.ntmps13
  go_wp2
  go_loopw [3] (fun i wr => ∃ (k : Nat) (segs' : List Int), k ≤ segs.length ∧ i = .int .i64 k ∧ segs'.length = segs.length ∧ (∀ s ∈ segs', (Lit.int .i64 s).wf = true) ∧ Own wr B g 3 (segs'.map (.int .i64) ++ ts) ∧ Own wr B h 60 (prods.flatMap tri ++ tp) ∧
      Chg (fun k => k = g ∨ k = h) w wr ∧ Box wr w.heap.size 31 #[.int .i64 id, .int .i64 ns, .int .i64 nx, .int .i64 mk, .int .i64 cl, .slice (some ⟨g, 0, none⟩) segs.length c, .slice (some ⟨h, 0, none⟩) prods.length d] ∧
      Box wr (w.heap.size + 1) 31 #[.int .i64 0, .int .i64 0, .int .i64 0, .int .i64 0, .int .i64 0, .slice none 0 0, .slice none 0 0])
    (fun i _ => segs.length - (intOf i).toNat)
  case atStart =>
    refine ⟨0, segs, Nat.zero_le _, rfl, rfl, hw, (HO.out.alloc _).alloc _, (HP.out.alloc _).alloc _, ((Chg.refl _ _).alloc _).alloc _, (Box.new w _ _).alloc _, ?_⟩
    simpa using Box.new (w.alloc (.cells #[.int .i64 id, .int .i64 ns, .int .i64 nx, .int .i64 mk, .int .i64 cl, .slice (some ⟨g, 0, none⟩) segs.length c, .slice (some ⟨h, 0, none⟩) prods.length d] 31)) 31 #[.int .i64 0, .int .i64 0, .int .i64 0, .int .i64 0, .int .i64 0, .slice none 0 0, .slice none 0 0]
  case round =>
    obtain ⟨k, segs', hk, rfl, hl, hw', hO, hP, hC, hX, hY⟩ := hrel
    have hcx := hX.cell
    have hl0 := Lib.hid hl
    by_cases hlt : k < segs.length
    · have hlt' : k < segs'.length := by omega
      have hk0 : (0 : Int) ≤ k := by omega
      have hk1 : (k : Int) < segs.length := by omega
      have hck := hO.int hlt'
      have hfk := hO.free k
      have H := Lib.hid (And.intro hO (And.intro hP (And.intro hC (And.intro hX hY))))
      have Hw := Lib.hid hw'
      clear hO hP hC hX hY hw' hl
      go_wp2
      go_still_tail 10, (by kernel_rfl)
      go_wp2
      go_roundw
      case rel =>
        refine ⟨k + 1, segs'.set k (wrap64 (segs'[k] + 1)), by omega, by go_num, by simp [hl0.out], ?_, (H.out.1.int_set hlt' _).drew, (H.out.2.1.far (by simpa using hgh.symm) _).drew, (H.out.2.2.1.setCell (.inl (.inl rfl)) _).drew, (H.out.2.2.2.1.far (by simp <;> omega) _).drew, (H.out.2.2.2.2.far (by simp <;> omega) _).drew⟩
        intro s hs
        rcases List.mem_or_eq_of_mem_set hs with h | h
        · exact Hw.out s h
        · rw [h]; exact wrap64_wf _
      case measure => simp [intOf]; omega
    · go_wp2
      have Hw := Lib.hid hw'
      clear hw'
      go_loopw [4] (fun i wr => ∃ (k : Nat) (prods' : List P3), k ≤ prods.length ∧ i = .int .i64 k ∧ prods'.length = prods.length ∧ Own wr B g 3 (segs'.map (.int .i64) ++ ts) ∧ Own wr B h 60 (prods'.flatMap tri ++ tp) ∧
          Chg (fun k => k = g ∨ k = h) w wr ∧ Box wr w.heap.size 31 #[.int .i64 id, .int .i64 ns, .int .i64 nx, .int .i64 mk, .int .i64 cl, .slice (some ⟨g, 0, none⟩) segs.length c, .slice (some ⟨h, 0, none⟩) prods.length d] ∧
          Box wr (w.heap.size + 1) 31 #[.int .i64 0, .int .i64 0, .int .i64 0, .int .i64 0, .int .i64 0, .slice none 0 0, .slice none 0 0])
        (fun i _ => prods.length - (intOf i).toNat)
      case atStart => exact ⟨0, prods, Nat.zero_le _, rfl, rfl, hO, hP, hC, hX, hY⟩
      case round =>
        obtain ⟨m, prods', hm, rfl, hl2, hO, hP, hC, hX, hY⟩ := hrel
        have hcx := hX.cell
        have hcy := hY.cell
        have hfy := hY.free
        have hl3 := Lib.hid hl2
        by_cases hlt2 : m < prods.length
        · have hlt' : m < prods'.length := by omega
          have hk0 : (0 : Int) ≤ m := by omega
          have hk1 : (m : Int) < prods.length := by omega
          have hck := hP.tri_ hlt'
          obtain ⟨_, hck2, _⟩ := hck
          have hfk := hP.free (m * 3 + 1)
          have H := Lib.hid (And.intro hO (And.intro hP (And.intro hC (And.intro hX hY))))
          clear hO hP hC hX hY hl2 hcy hfy
          go_wp2
          go_still_tail 12, (by kernel_rfl)
          go_wp2
          go_roundw
          case rel =>
            refine ⟨m + 1, prods'.set m (prods'[m].1, wrap64 (prods'[m].2.1 + 1), prods'[m].2.2), by omega, by go_num, by simp [hl3.out], (H.out.1.far (by simpa using hgh) _).drew, (H.out.2.1.tri_set hlt' _).drew, (H.out.2.2.1.setCell (.inl (.inr rfl)) _).drew, (H.out.2.2.2.1.far (by simp <;> omega) _).drew, (H.out.2.2.2.2.far (by simp <;> omega) _).drew⟩
          case measure => simp [intOf]; omega
        · have H := Lib.hid (And.intro hO (And.intro hP (And.intro hC (And.intro hX hY))))
          clear hO hP hC hX hY hl2
          go_wp2
          refine bodyPost_ret (v := manV id ns nx mk cl (.slice (some ⟨g, 0, none⟩) segs.length c) (.slice (some ⟨h, 0, none⟩) prods.length d)) ?_ rfl ?_
          · simp [results, Tryd.results13, go_sem, hcy]
          refine ⟨segs', prods', hl0.out, hl3.out, Hw.out, rfl, ?_⟩
          refine And.intro ?_ (And.intro ?_ ?_)
          · repeat (with_reducible refine Own.far ?_ (by simp <;> omega) _)
            exact H.out.1
          · repeat (with_reducible refine Own.far ?_ (by simp <;> omega) _)
            exact H.out.2.1
          · repeat (with_reducible refine Chg.setCell ?_ (Or.inr (by simp)) _)
            exact H.out.2.2.1
end Go.Proofs.YtbmbgkgjlnookaaDoor
