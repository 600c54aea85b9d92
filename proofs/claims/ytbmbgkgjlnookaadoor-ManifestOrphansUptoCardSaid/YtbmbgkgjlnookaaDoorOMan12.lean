import Derived.Test.YtbmbgkgjlnookaaDoorOMan11
namespace Go.Proofs.YtbmbgkgjlnookaaDoor
open Go.RowKit Go.Maps

theorem quad_at (l : List T4) (ts : List Value) {i : Nat} (hi : i < l.length) :
    (l.flatMap quad ++ ts)[i * 4]? = some (.int .i64 l[i].id) ∧ (l.flatMap quad ++ ts)[i * 4 + 1]? = some (.string l[i].name) ∧ (l.flatMap quad ++ ts)[i * 4 + 2]? = some (.int .i64 l[i].limit) ∧ (l.flatMap quad ++ ts)[i * 4 + 3]? = some (.int .i64 l[i].hor) := by
  obtain ⟨h1, h2, h3, h4⟩ := quad_get l i hi
  have hl := quad_len l
  exact ⟨by rw [List.getElem?_append_left (by omega)]; exact h1, by rw [List.getElem?_append_left (by omega)]; exact h2, by rw [List.getElem?_append_left (by omega)]; exact h3, by rw [List.getElem?_append_left (by omega)]; exact h4⟩
theorem Own.quad_ {w : World} {B g : Nat} {t : TypeId} {l : List T4} {ts : List Value} (h : Own w B g t (l.flatMap quad ++ ts)) {i : Nat} (hi : i < l.length) :
    w.cell? ⟨g, i * 4, none⟩ = some (.int .i64 l[i].id) ∧ w.cell? ⟨g, i * 4 + 1, none⟩ = some (.string l[i].name) ∧ w.cell? ⟨g, i * 4 + 2, none⟩ = some (.int .i64 l[i].limit) ∧ w.cell? ⟨g, i * 4 + 3, none⟩ = some (.int .i64 l[i].hor) :=
  let ⟨a, b, c, d⟩ := quad_at l ts hi; ⟨h.get a, h.get b, h.get c, h.get d⟩
theorem flatMap_set4 (l : List T4) (i : Nat) (hi : i < l.length) (p : T4) :
    (l.set i p).flatMap quad = ((((l.flatMap quad).set (i * 4) (.int .i64 p.id)).set (i * 4 + 1) (.string p.name)).set (i * 4 + 2) (.int .i64 p.limit)).set (i * 4 + 3) (.int .i64 p.hor) := by
  induction l generalizing i with
  | nil => simp at hi
  | cons q l ih =>
    cases i with
    | zero => simp [quad]
    | succ i =>
      have e : (i + 1) * 4 = i * 4 + 4 := by omega
      have hl : (quad q).length = 4 := rfl
      simp only [List.set_cons_succ, List.flatMap_cons, ih i (by simpa using hi), e]
      rw [List.set_append_right _ _ (by omega), List.set_append_right _ _ (by omega), List.set_append_right _ _ (by omega), List.set_append_right _ _ (by omega), hl,
        show i * 4 + 4 - 4 = i * 4 by omega, show i * 4 + 4 + 1 - 4 = i * 4 + 1 by omega, show i * 4 + 4 + 2 - 4 = i * 4 + 2 by omega, show i * 4 + 4 + 3 - 4 = i * 4 + 3 by omega]
theorem Own.quad_set4 {w : World} {B g : Nat} {t : TypeId} {l : List T4} {ts : List Value} (h : Own w B g t (l.flatMap quad ++ ts)) {i : Nat} (hi : i < l.length) (p : T4) :
    Own ((((w.setCell ⟨g, i * 4, none⟩ (.int .i64 p.id)).setCell ⟨g, i * 4 + 1, none⟩ (.string p.name)).setCell ⟨g, i * 4 + 2, none⟩ (.int .i64 p.limit)).setCell ⟨g, i * 4 + 3, none⟩ (.int .i64 p.hor)) B g t ((l.set i p).flatMap quad ++ ts) := by
  have hl := quad_len l
  have h1 := h.set_ (i := i * 4) (by rw [List.length_append]; omega) (.int .i64 p.id)
  have h2 := h1.set_ (i := i * 4 + 1) (by rw [List.length_set, List.length_append]; omega) (.string p.name)
  have h3 := h2.set_ (i := i * 4 + 2) (by rw [List.length_set, List.length_set, List.length_append]; omega) (.int .i64 p.limit)
  have h4 := h3.set_ (i := i * 4 + 3) (by rw [List.length_set, List.length_set, List.length_set, List.length_append]; omega) (.int .i64 p.hor)
  rw [List.set_append_left _ _ (by omega), List.set_append_left _ _ (by rw [List.length_set]; omega), List.set_append_left _ _ (by rw [List.length_set, List.length_set]; omega),
    List.set_append_left _ _ (by rw [List.length_set, List.length_set, List.length_set]; omega), ← flatMap_set4 l i hi] at h4
  exact h4
/-- Only the number of the i-th is written. -/
theorem Own.quad_set {w : World} {B g : Nat} {t : TypeId} {l : List T4} {ts : List Value} (h : Own w B g t (l.flatMap quad ++ ts)) {i : Nat} (hi : i < l.length) (x : Int) :
    Own (w.setCell ⟨g, i * 4, none⟩ (.int .i64 x)) B g t ((l.set i { l[i] with id := x }).flatMap quad ++ ts) := by
  have hl := quad_len l
  have := h.set_ (i := i * 4) (by rw [List.length_append]; omega) (.int .i64 x)
  rw [List.set_append_left _ _ (by omega)] at this
  obtain ⟨h1, h2, h3, h4⟩ := quad_get l i hi
  rw [flatMap_set4 l i hi]
  rw [set_get_self _ (i * 4 + 1) _ (by rw [List.getElem?_set_ne (by omega)]; exact h2), set_get_self _ (i * 4 + 2) _ (by rw [List.getElem?_set_ne (by omega)]; exact h3),
    set_get_self _ (i * 4 + 3) _ (by rw [List.getElem?_set_ne (by omega)]; exact h4)]
  exact this

abbrev catV (nid : Int) (s : Value) : Value := .agg #[.int .i64 nid, s]

set_option maxRecDepth 100000 in
set_option maxHeartbeats 4000000 in
theorem movedCat_any (nid : Int) (g c : Nat) (l : List T4) (ts : List Value) (B : Nat) (w : World) (hO : Own w B g 62 (l.flatMap quad ++ ts)) (hmx : l.length ≤ maxLen) (hw : ∀ t ∈ l, (Lit.int .i64 t.id).wf = true ∧ t.name.size ≤ maxLen) :
    Calls Tryd.prog 15 #[catV nid (.slice (some ⟨g, 0, none⟩) l.length c)] w fun e w' =>
      ∃ (l' : List T4), l'.length = l.length ∧ (∀ t ∈ l', (Lit.int .i64 t.id).wf = true ∧ t.name.size ≤ maxLen) ∧
        e = .returned (catV nid (.slice (some ⟨g, 0, none⟩) l.length c)) ∧ Own w' B g 62 (l'.flatMap quad ++ ts) ∧ Chg (fun k => k = g) w w' := by
  have hgl := hO.lt
  unfold maxLen at hmx
  have HO := Lib.hid hO
  clear hO
  go_enter Tryd.func15, Tryd.ntmps15
  go_wp2
  go_loopw [3] (fun i wr => ∃ (k : Nat) (l' : List T4), k ≤ l.length ∧ i = .int .i64 k ∧ l'.length = l.length ∧ (∀ t ∈ l', (Lit.int .i64 t.id).wf = true ∧ t.name.size ≤ maxLen) ∧ Own wr B g 62 (l'.flatMap quad ++ ts) ∧
      Chg (fun k => k = g) w wr ∧ Box wr w.heap.size 34 #[.int .i64 nid, .slice (some ⟨g, 0, none⟩) l.length c] ∧ Box wr (w.heap.size + 1) 34 #[.int .i64 0, .slice none 0 0])
    (fun i _ => l.length - (intOf i).toNat)
  case atStart =>
    refine ⟨0, l, Nat.zero_le _, rfl, rfl, hw, (HO.out.alloc _).alloc _, ((Chg.refl _ _).alloc _).alloc _, (Box.new w _ _).alloc _, ?_⟩
    simpa using Box.new (w.alloc (.cells #[.int .i64 nid, .slice (some ⟨g, 0, none⟩) l.length c] 34)) 34 #[.int .i64 0, .slice none 0 0]
  case round =>
    obtain ⟨k, l', hk, rfl, hl, hw', hO, hC, hX, hY⟩ := hrel
    have hcx := hX.cell
    have hcy := hY.cell
    have hfy := hY.free
    have hl0 := Lib.hid hl
    have Hw := Lib.hid hw'
    clear hw'
    by_cases hlt : k < l.length
    · have hlt' : k < l'.length := by omega
      have hk0 : (0 : Int) ≤ k := by omega
      have hk1 : (k : Int) < l.length := by omega
      obtain ⟨hck, _⟩ := hO.quad_ hlt'
      have hfk := hO.free (k * 4)
      have H := Lib.hid (And.intro hO (And.intro hC (And.intro hX hY)))
      clear hO hC hX hY hl hcy hfy
      go_wp2
      go_still_tail 12, (by kernel_rfl)
      go_wp2
      go_roundw
      case rel =>
        refine ⟨k + 1, l'.set k { l'[k] with id := wrap64 (l'[k].id + 1) }, by omega, by go_num, by simp [hl0.out], ?_, (H.out.1.quad_set hlt' _).drew, (H.out.2.1.setCell (.inl rfl) _).drew, (H.out.2.2.1.far (by simp <;> omega) _).drew, (H.out.2.2.2.far (by simp <;> omega) _).drew⟩
        intro t ht
        rcases List.mem_or_eq_of_mem_set ht with h | h
        · exact Hw.out t h
        · rw [h]; exact ⟨wrap64_wf _, (Hw.out _ (List.getElem_mem hlt')).2⟩
      case measure => simp [intOf]; omega
    · have H := Lib.hid (And.intro hO (And.intro hC (And.intro hX hY)))
      clear hO hC hX hY hl
      go_wp2
      refine bodyPost_ret (v := catV nid (.slice (some ⟨g, 0, none⟩) l.length c)) ?_ rfl ?_
      · simp [results, Tryd.results15, go_sem, hcy]
      refine ⟨l', hl0.out, Hw.out, rfl, ?_⟩
      refine And.intro ?_ ?_
      · repeat (with_reducible refine Own.far ?_ (by simp <;> omega) _)
        exact H.out.1
      · repeat (with_reducible refine Chg.setCell ?_ (Or.inr (by simp)) _)
        exact H.out.2.1

set_option maxRecDepth 100000 in
set_option maxHeartbeats 4000000 in
theorem backCat_any (nid nid' : Int) (g c c' : Nat) (A : Option Addr) (l l' : List T4) (ts : List Value) (B : Nat) (w : World) (hO : Own w B g 62 (l'.flatMap quad ++ ts))
    (hA : Rd w B A (l.flatMap quad)) (hBw : B ≤ w.heap.size) (hls : l.length = l'.length) (hmx : l.length ≤ maxLen) :
    Calls Tryd.prog 16 #[catV nid (.slice (some ⟨g, 0, none⟩) l.length c), catV nid' (.slice A l.length c')] w fun e w' =>
      e = .returned (.tuple #[]) ∧ Own w' B g 62 (l.flatMap quad ++ ts) ∧ Chg (fun k => k = g) w w' := by
  have hgl := hO.lt
  have hgB := hO.1
  unfold maxLen at hmx
  have HO := Lib.hid hO
  have HLs := Lib.hid hls
  clear hO hls
  go_enter Tryd.func16, Tryd.ntmps16
  go_wp2
  go_loopw [4] (fun i wr => ∃ (k : Nat), k ≤ l.length ∧ i = .int .i64 k ∧ Own wr B g 62 ((mix l l' k).flatMap quad ++ ts) ∧
      Chg (fun k => k = g) w wr ∧ Box wr w.heap.size 34 #[.int .i64 nid, .slice (some ⟨g, 0, none⟩) l.length c] ∧ Box wr (w.heap.size + 1) 34 #[.int .i64 nid', .slice A l.length c'])
    (fun i _ => l.length - (intOf i).toNat)
  case atStart =>
    refine ⟨0, Nat.zero_le _, rfl, ?_, ((Chg.refl _ _).alloc _).alloc _, (Box.new w _ _).alloc _, ?_⟩
    · rw [mix_zero]; exact (HO.out.alloc _).alloc _
    · simpa using Box.new (w.alloc (.cells #[.int .i64 nid, .slice (some ⟨g, 0, none⟩) l.length c] 34)) 34 #[.int .i64 nid', .slice A l.length c']
  case round =>
    obtain ⟨k, hk, rfl, hO, hC, hX, hY⟩ := hrel
    have hcx := hX.cell
    have hcy := hY.cell
    by_cases hlt : k < l.length
    · have hk0 : (0 : Int) ≤ k := by omega
      have hk1 : (k : Int) < l.length := by omega
      have hlm := Lib.hid (mix_len l l' k HLs.out hk)
      obtain ⟨q1, q2, q3, q4⟩ := hO.quad_ (i := k) (by rw [hlm.out]; exact hlt)
      have hfk := hO.free
      obtain ⟨ad, rfl, had, hca, hca2, hca3, hca4⟩ := (hA.below (hC.below (B := B) hBw (by rintro j rfl; assumption))).quad_ hlt
      have H := Lib.hid (And.intro hO (And.intro hC (And.intro hX hY)))
      clear hO hC hX hY
      go_wp2
      go_still_tail 9, (by kernel_rfl)
      go_wp2
      go_roundw
      case rel =>
        refine ⟨k + 1, by omega, by go_num, ?_, ?_, ?_, ?_⟩
        · rw [← mix_set l l' k HLs.out hlt]
          exact (H.out.1.quad_set4 (by rw [hlm.out]; exact hlt) l[k]).drew
        · exact ((((H.out.2.1.setCell (.inl rfl) _).setCell (.inl rfl) _).setCell (.inl rfl) _).setCell (.inl rfl) _).drew
        · refine Box.drew ?_
          repeat (with_reducible refine Box.far ?_ (by simp <;> omega) _)
          exact H.out.2.2.1
        · refine Box.drew ?_
          repeat (with_reducible refine Box.far ?_ (by simp <;> omega) _)
          exact H.out.2.2.2
      case measure => simp [intOf]; omega
    · have H := Lib.hid (And.intro hO (And.intro hC (And.intro hX hY)))
      clear hO hC hX hY
      go_wp2
      go_end0
      refine ⟨rfl, ?_, H.out.2.1⟩
      have := H.out.1
      have h2 := HLs.out
      rw [mix_all l l' k (by omega) (by omega)] at this; exact this
end Go.Proofs.YtbmbgkgjlnookaaDoor
