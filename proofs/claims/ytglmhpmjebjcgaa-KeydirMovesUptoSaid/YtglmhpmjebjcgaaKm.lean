import Derived.Test.YtglmhpmjebjcgaaKl
/- KeydirMoves: whole; the moves in memory. -/
namespace Go.Proofs.Ytglmhpmjebjcgaa
open Go.RowKit Go.Maps

set_option maxRecDepth 100000 in
set_option maxHeartbeats 4000000 in
theorem sameItems_q (A B : Option Addr) (n c d : Nat) (l : List KE) (w : World) (hA : Rd w w.heap.size A (l.flatMap keC)) (hB : Rd w w.heap.size B (l.flatMap keC)) (hn : l.length = n) (hmx : n ≤ 140737488351232) :
    Calls Try.prog 28 #[.slice A n c, .slice B n d] w fun e w' => e = .returned (.bool true) ∧ ∃ m, w' = w.drewN m := by
  have Hn := Lib.hid hn
  clear hn
  go_enter Try.func28, Try.ntmps28
  go_wp2
  go_loopw [5] (fun i wr => ∃ (k m : Nat), k ≤ n ∧ i = .int .i64 k ∧ wr = w.drewN m) (fun i _ => n - (intOf i).toNat)
  case atStart => exact ⟨0, 0, Nat.zero_le _, rfl, rfl⟩
  case round =>
    obtain ⟨k, m, hk, rfl, hwm⟩ := hrel
    have hbl : Below w.heap.size w wr := by rw [hwm]; exact below_drewN (Below.refl _ _) m
    by_cases hlt : k < n
    · have hk0 : (0 : Int) ≤ k := by omega
      have hk1 : (k : Int) < n := by omega
      have hkl : k < l.length := by rw [Hn.out]; exact hlt
      obtain ⟨ad, rfl, had, a0, a1, a2, a3, a4, a5, a6⟩ := (hA.below hbl).ke hkl
      obtain ⟨ad', rfl, had', b0, b1, b2, b3, b4, b5, b6⟩ := (hB.below hbl).ke hkl
      have H := Lib.hid hwm
      clear hbl hwm
      generalize l[k] = x at a0 a1 a2 a3 a4 a5 a6 b0 b1 b2 b3 b4 b5 b6
      go_wp2
      go_quiet (fail)
      go_wp2
      go_roundw
      case rel => exact ⟨k + 1, _, by omega, by go_num, by rw [H.out]; first | rfl | exact World.drewN_drewN ..⟩
      case measure => simp [intOf]; omega
    · have H := Lib.hid hwm
      clear hbl hwm
      go_wp2
      go_ret
      exact ⟨rfl, _, H.out⟩

set_option maxRecDepth 100000 in
set_option maxHeartbeats 8000000 in
theorem whole_any (B wb N ns : Nat) (Lv : Value) (ds rs : Nat → Nat) (vs : Nat → Value) (ls : Nat → List KE) (g c g' c' : Nat) (w : World) (h : DW B wb Lv N (St.at ns ds rs vs ls g c g' c') w) (hN : N ≤ 3000000) :
    Calls Try.prog 8 #[.pointer (some ⟨wb, 0, none⟩)] w fun e w' => e = .returned (.bool true) ∧ Below w.heap.size w w' := by
  obtain ⟨hn0, hc1, hc2⟩ := h.caps
  have H := Lib.hid h
  have hb0 := (h.look (i := 0) (by omega)).2
  clear h
  go_enter Try.func8, Try.ntmps8
  go_wp2
  go_loopw [3] (fun t wr => ∃ i, i ≤ ns ∧ t = .int .i64 (i : Nat) ∧ Below w.heap.size w wr) (fun t _ => ns - (intOf t).toNat)
  case atStart => exact ⟨0, Nat.zero_le _, rfl, Below.refl _ _⟩
  case round =>
    obtain ⟨i, hi, rfl, hb⟩ := hrel
    have hD := H.out.next hb
    have hbc := (hD.look (i := 0) (by omega)).2
    clear hb0
    by_cases hlt : i < ns
    · have hi1 : (i : Int) < ns := by omega
      have hi0 : (0 : Int) ≤ i := by omega
      have hws := hb.size
      have HD := Lib.hid (And.intro hD hb)
      clear hD hb
      go_wp2
      obtain ⟨W3, hW3⟩ : ∃ W3, World.drew _ = W3 := ⟨wr.drew, rfl⟩
      have hb3 : Below wr.heap.size wr W3 := by rw [← hW3]; exact (Below.refl _ wr).drew
      have hD3 := HD.out.1.next hb3
      obtain ⟨⟨q1, q2⟩, q3⟩ := hD3.look hlt
      have hS0 : (fun w' : World => w'.cell? ⟨wb, 0, none⟩ = some (.slice (some ⟨g, 0, none⟩) ns c) ∧ w'.cell? ⟨wb, 1, none⟩ = some (.slice (some ⟨g', 0, none⟩) ns c') ∧ w'.cell? ⟨g, i, none⟩ = some (.pointer (some ⟨ds i, 0, none⟩)) ∧ w'.cell? ⟨g', i, none⟩ = some (.pointer (some ⟨rs i, 0, none⟩))) W3 := ⟨q3 0, q3 1, q1, q2⟩
      have hs3 := hb3.size
      have H3 := Lib.hid (And.intro hD3 hb3)
      clear hD3 hb3 q1 q2 q3
      refine WT.start (fun w' : World => w'.cell? ⟨wb, 0, none⟩ = some (.slice (some ⟨g, 0, none⟩) ns c) ∧ w'.cell? ⟨wb, 1, none⟩ = some (.slice (some ⟨g', 0, none⟩) ns c') ∧ w'.cell? ⟨g, i, none⟩ = some (.pointer (some ⟨ds i, 0, none⟩)) ∧ w'.cell? ⟨g', i, none⟩ = some (.pointer (some ⟨rs i, 0, none⟩))) 17 (by kernel_rfl) ?_
      rw [hW3]
      clear hW3
      refine WT.take 0 (v := ?_) rfl (by kernel_rfl) (by kernel_rfl) (by kernel_rfl) (by kernel_rfl) (fun _ _ _ h => h) (Or.inl ⟨by rfl, ?hy⟩) hS0 ?_
      case hy => first | (intro w hSw; go_simp; done) | (intro w hSw; go_simp; with_reducible rfl)
      simp only [Act.put, List.setIfInBounds_toArray, List.set_cons_zero, List.set_cons_succ]
      refine WT.take 1 (v := ?_) rfl (by kernel_rfl) (by kernel_rfl) (by kernel_rfl) (by kernel_rfl) (fun _ _ _ h => h) (Or.inl ⟨by rfl, ?hy⟩) hS0 ?_
      case hy => first | (intro w hSw; go_simp; done) | (intro w hSw; go_simp; with_reducible rfl)
      simp only [Act.put, List.setIfInBounds_toArray, List.set_cons_zero, List.set_cons_succ]
      refine WT.take 2 (v := ?_) rfl (by kernel_rfl) (by kernel_rfl) (by kernel_rfl) (by kernel_rfl) (fun _ _ _ h => h) (Or.inl ⟨by rfl, ?hy⟩) hS0 ?_
      case hy => first | (intro w hSw; go_simp; done) | (intro w hSw; go_simp; with_reducible rfl)
      simp only [Act.put, List.setIfInBounds_toArray, List.set_cons_zero, List.set_cons_succ]
      refine WT.take 3 (v := ?_) rfl (by kernel_rfl) (by kernel_rfl) (by kernel_rfl) (by kernel_rfl) (fun _ _ _ h => h) (Or.inl ⟨by rfl, ?hy⟩) hS0 ?_
      case hy => first | (intro w hSw; go_simp; done) | (intro w hSw; go_simp; with_reducible rfl)
      simp only [Act.put, List.setIfInBounds_toArray, List.set_cons_zero, List.set_cons_succ]
      refine WT.take 4 (v := ?_) rfl (by kernel_rfl) (by kernel_rfl) (by kernel_rfl) (by kernel_rfl) (fun _ _ _ h => h) (Or.inl ⟨by rfl, ?hy⟩) hS0 ?_
      case hy => first | (intro w hSw; go_simp; done) | (intro w hSw; go_simp; with_reducible rfl)
      simp only [Act.put, List.setIfInBounds_toArray, List.set_cons_zero, List.set_cons_succ]
      refine WT.take 5 (v := ?_) rfl (by kernel_rfl) (by kernel_rfl) (by kernel_rfl) (by kernel_rfl) (fun _ _ _ h => h) (Or.inl ⟨by rfl, ?hy⟩) hS0 ?_
      case hy => first | (intro w hSw; go_simp; done) | (intro w hSw; go_simp; with_reducible rfl)
      simp only [Act.put, List.setIfInBounds_toArray, List.set_cons_zero, List.set_cons_succ]
      refine WT.take 6 (v := ?_) rfl (by kernel_rfl) (by kernel_rfl) (by kernel_rfl) (by kernel_rfl) (fun _ _ _ h => h) (Or.inl ⟨by rfl, ?hy⟩) hS0 ?_
      case hy => first | (intro w hSw; go_simp; done) | (intro w hSw; go_simp; with_reducible rfl)
      simp only [Act.put, List.setIfInBounds_toArray, List.set_cons_zero, List.set_cons_succ]
      refine WT.take 7 (v := ?_) rfl (by kernel_rfl) (by kernel_rfl) (by kernel_rfl) (by kernel_rfl) (fun _ _ _ h => h) (Or.inl ⟨by rfl, ?hy⟩) hS0 ?_
      case hy => first | (intro w hSw; go_simp; done) | (intro w hSw; go_simp; with_reducible rfl)
      simp only [Act.put, List.setIfInBounds_toArray, List.set_cons_zero, List.set_cons_succ]
      refine WT.take 8 (v := ?_) rfl (by kernel_rfl) (by kernel_rfl) (by kernel_rfl) (by kernel_rfl) (fun _ _ _ h => h) (Or.inl ⟨by rfl, ?hy⟩) hS0 ?_
      case hy => first | (intro w hSw; go_simp; done) | (intro w hSw; go_simp; with_reducible rfl)
      simp only [Act.put, List.setIfInBounds_toArray, List.set_cons_zero, List.set_cons_succ]
      refine WT.take 9 (v := ?_) rfl (by kernel_rfl) (by kernel_rfl) (by kernel_rfl) (by kernel_rfl) (fun _ _ _ h => h) (Or.inl ⟨by rfl, ?hy⟩) hS0 ?_
      case hy => first | (intro w hSw; go_simp; done) | (intro w hSw; go_simp; with_reducible rfl)
      simp only [Act.put, List.setIfInBounds_toArray, List.set_cons_zero, List.set_cons_succ]
      refine WT.take 10 (v := ?_) rfl (by kernel_rfl) (by kernel_rfl) (by kernel_rfl) (by kernel_rfl) (fun _ _ _ h => h) (Or.inl ⟨by rfl, ?hy⟩) hS0 ?_
      case hy => first | (intro w hSw; go_simp; done) | (intro w hSw; go_simp; with_reducible rfl)
      simp only [Act.put, List.setIfInBounds_toArray, List.set_cons_zero, List.set_cons_succ]
      refine WT.take 11 (v := ?_) rfl (by kernel_rfl) (by kernel_rfl) (by kernel_rfl) (by kernel_rfl) (fun _ _ _ h => h) (Or.inl ⟨by rfl, ?hy⟩) hS0 ?_
      case hy => first | (intro w hSw; go_simp; done) | (intro w hSw; go_simp; with_reducible rfl)
      simp only [Act.put, List.setIfInBounds_toArray, List.set_cons_zero, List.set_cons_succ]
      refine WT.take 12 (v := ?_) rfl (by kernel_rfl) (by kernel_rfl) (by kernel_rfl) (by kernel_rfl) (fun _ _ _ h => h) (Or.inl ⟨by rfl, ?hy⟩) hS0 ?_
      case hy => first | (intro w hSw; go_simp; done) | (intro w hSw; go_simp; with_reducible rfl)
      simp only [Act.put, List.setIfInBounds_toArray, List.set_cons_zero, List.set_cons_succ]
      refine WT.take 13 (v := ?_) rfl (by kernel_rfl) (by kernel_rfl) (by kernel_rfl) (by kernel_rfl) (fun _ _ _ h => h) (Or.inl ⟨by rfl, ?hy⟩) hS0 ?_
      case hy => first | (intro w hSw; go_simp; done) | (intro w hSw; go_simp; with_reducible rfl)
      simp only [Act.put, List.setIfInBounds_toArray, List.set_cons_zero, List.set_cons_succ]
      refine WT.step 14 rfl (by kernel_rfl) (by decide) fun K hK => ?_
      go_simp
      go_at_call 24
      refine (len8 B (rs i) (vs i) (ls i) _ (H3.out.1.ref i hlt)).mono ?_
      rintro e w8 ⟨rfl, hw8⟩
      subst hw8
      have hll : ((ls i).length : Int) + 1 ≤ 9000000 := by have := H3.out.1.len i hlt; simp only at this; omega
      go_simp
      refine hK.out _ _ hS0 ?_
      clear hK K
      refine WT.take 15 (v := ?_) rfl (by kernel_rfl) (by kernel_rfl) (by kernel_rfl) (by kernel_rfl) (fun _ _ _ h => h) (Or.inl ⟨by rfl, ?hy⟩) hS0 ?_
      case hy => first | (intro w hSw; go_simp; done) | (intro w hSw; go_simp; with_reducible rfl)
      simp only [Act.put, List.setIfInBounds_toArray, List.set_cons_zero, List.set_cons_succ]
      refine WT.step 16 rfl (by kernel_rfl) (by decide) fun K hK => ?_
      go_simp
      go_at_call 27
      have a1 : (ls i).length ≤ 2199023255488 := by have := H3.out.1.len i hlt; simp only at this; omega
      have a2 : ((ls i).length : Int) + 1 ≤ 9223372036854775807 := by omega
      have a3 : DR _ (ds i) (ls i) := H3.out.1.dir i hlt
      have a5 := range_all (ds i) (ls i) ⟨#[]⟩ ⟨#[]⟩ (((ls i).length : Int) + 1) _ a3 (by decide) (by decide) a1 a2
      clear a1 a2 a3
      rw [show IntKind.i64.wrap (((ls i).length : Int) + 1) = ((ls i).length : Int) + 1 from IntWalk.i64_in _ (by omega)]
      refine a5.mono ?_
      clear a5
      rintro e w9 ⟨v9, rfl, hr9, hb9⟩
      have e9 : (sel ⟨#[]⟩ ⟨#[]⟩ (ls i)).take (((ls i).length : Int) + 1).toNat = ls i := by rw [sel_whole]; exact List.take_of_length_le (by omega)
      rw [e9] at hr9
      obtain ⟨A9, c9, rfl⟩ := row_slice hr9
      have hD9 := H3.out.1.next hb9
      obtain ⟨⟨q1, q2⟩, q3⟩ := hD9.look hlt
      have hS9 : (fun w' : World => w'.cell? ⟨wb, 0, none⟩ = some (.slice (some ⟨g, 0, none⟩) ns c) ∧ w'.cell? ⟨wb, 1, none⟩ = some (.slice (some ⟨g', 0, none⟩) ns c') ∧ w'.cell? ⟨g, i, none⟩ = some (.pointer (some ⟨ds i, 0, none⟩)) ∧ w'.cell? ⟨g', i, none⟩ = some (.pointer (some ⟨rs i, 0, none⟩))) w9 := ⟨q3 0, q3 1, q1, q2⟩
      have H9 := Lib.hid (And.intro (row_rd' hr9) (And.intro hb9 hD9))
      clear hr9 hb9 hD9 e9 hS0 q1 q2 q3
      go_simp
      refine hK.out _ _ hS9 ?_
      clear hK K
      refine WT.last 17 rfl (by kernel_rfl) rfl fun K hK => ?_
      go_simp
      refine hK.out _ _ ?_
      clear hK K
      refine WT.done (by kernel_rfl) ?_
      obtain ⟨⟨q1, q2⟩, q3⟩ := H9.out.2.2.look hlt
      obtain ⟨A8, c8, hv8, hrd8, hcp8⟩ := (H9.out.2.2.ref i hlt).rd
      have hq4 := (H9.out.2.2.ref i hlt).1.cell 0
      simp only at hv8 hq4 hrd8 hcp8
      rw [hv8] at hq4
      have hX : ∀ m, DW B wb Lv N (St.at ns ds rs vs ls g c g' c') (w9.drewN m) := fun m => H9.out.2.2.next (below_drewN (Below.refl _ _) m)
      have hA9 : ∀ m, Rd (w9.drewN m) (w9.drewN m).heap.size A9 ((ls i).flatMap keC) := fun m => H9.out.1.below (below_drewN (Below.refl _ _) m)
      have hA8 : ∀ m, Rd (w9.drewN m) (w9.drewN m).heap.size A8 ((ls i).flatMap keC) := fun m => hrd8.below (below_drewN (Below.refl _ _) m)
      have hll : (ls i).length ≤ 3000000 := by have := H9.out.2.2.len i hlt; simp only at this; omega
      have HX := Lib.hid (And.intro hX (And.intro hA9 (And.intro hA8 hll)))
      clear hX hA9 hA8 hrd8 hcp8 hv8 hbc hS9 hll
      go_wp2
      go_quiet (first
        | (go_at_call 28; exact Calls.quiet_of (sameItems_q A9 A8 _ c9 c8 (ls i) _ (HX.out.2.1 _) (HX.out.2.2.1 _) rfl (by have := HX.out.2.2.2; omega)))
        | (go_at_call 23; exact Calls.quiet_of_same (lenD (ds i) (ls i) _ ((HX.out.1 _).dir i hlt)))
        | (go_at_call 24; exact Calls.quiet_of_same (len8 B (rs i) (vs i) (ls i) _ ((HX.out.1 _).ref i hlt))))
      clear q1 q2 q3 hq4
      go_wp2
      go_roundw
      case rel => exact ⟨i + 1, by omega, by go_num, below_drewN ((HD.out.2.trans (H3.out.2.mono hws)).trans (H9.out.2.1.mono (by omega))) _⟩
      case measure => simp [intOf]; omega
    · have hi1 : ¬ (i : Int) < ns := by omega
      have HB := Lib.hid hb
      clear hb
      go_wp2
      go_ret
      exact ⟨rfl, HB.out⟩

def mvC (m : Mv) : List Value := [.int .i64 m.dir, .int .i64 m.kind, .string m.key, .string m.hi, .int .i64 m.e.seg, .int .i64 m.e.at_, .int .i64 m.e.size, .int .i64 m.e.off, .int .i64 m.e.time, .bool m.e.tomb, .int .i64 m.n]
theorem mv_get (l : List Mv) (i : Nat) (hi : i < l.length) : ∀ (j : Nat) (u : Value), (mvC l[i])[j]? = some u → (l.flatMap mvC)[i * 11 + j]? = some u := by
  induction l generalizing i with
  | nil => simp at hi
  | cons q l ih =>
    intro j u hu
    have hq : (mvC q).length = 11 := rfl
    rw [List.flatMap_cons]
    cases i with
    | zero =>
      have hj := (List.getElem?_eq_some_iff.1 hu).1
      rw [List.getElem?_append_left (by simpa using hj)]
      simpa using hu
    | succ i =>
      rw [List.getElem?_append_right (by omega), hq, show (i + 1) * 11 + j - 11 = i * 11 + j by omega]
      exact ih i (by simpa using hi) j u (by simpa using hu)
theorem mvC_len (l : List Mv) : (l.flatMap mvC).length = l.length * 11 := by
  induction l with
  | nil => rfl
  | cons p l ih => simp only [List.flatMap_cons, List.length_append, ih, List.length_cons]; show 11 + _ = _; omega
theorem Rd.mv {w : World} {B : Nat} {A : Option Addr} {l : List Mv} (h : Rd w B A (l.flatMap mvC)) {i : Nat} (hi : i < l.length) : ∃ ad : Addr, A = some ad ∧ ad.block < B ∧ w.cell? (ad.add (i * 11)) = some (.int .i64 l[i].dir) ∧
    w.cell? ⟨(ad.add (i * 11)).block, (ad.add (i * 11)).off + 1, none⟩ = some (.int .i64 l[i].kind) ∧ w.cell? ⟨(ad.add (i * 11)).block, (ad.add (i * 11)).off + 2, none⟩ = some (.string l[i].key) ∧ w.cell? ⟨(ad.add (i * 11)).block, (ad.add (i * 11)).off + 3, none⟩ = some (.string l[i].hi) ∧
    w.cell? ⟨(ad.add (i * 11)).block, (ad.add (i * 11)).off + 4, none⟩ = some (.int .i64 l[i].e.seg) ∧ w.cell? ⟨(ad.add (i * 11)).block, (ad.add (i * 11)).off + 5, none⟩ = some (.int .i64 l[i].e.at_) ∧ w.cell? ⟨(ad.add (i * 11)).block, (ad.add (i * 11)).off + 6, none⟩ = some (.int .i64 l[i].e.size) ∧
    w.cell? ⟨(ad.add (i * 11)).block, (ad.add (i * 11)).off + 7, none⟩ = some (.int .i64 l[i].e.off) ∧ w.cell? ⟨(ad.add (i * 11)).block, (ad.add (i * 11)).off + 8, none⟩ = some (.int .i64 l[i].e.time) ∧ w.cell? ⟨(ad.add (i * 11)).block, (ad.add (i * 11)).off + 9, none⟩ = some (.bool l[i].e.tomb) ∧
    w.cell? ⟨(ad.add (i * 11)).block, (ad.add (i * 11)).off + 10, none⟩ = some (.int .i64 l[i].n) := by
  have g := mv_get l i hi
  obtain ⟨ad, rfl, hb, c0⟩ := h _ _ (g 0 _ rfl)
  refine ⟨ad, rfl, hb, c0, ?_, ?_, ?_, ?_, ?_, ?_, ?_, ?_, ?_, ?_⟩
  · obtain ⟨a', e, _, c⟩ := h _ _ (g 1 _ rfl); cases e; rw [← add_add'] at c; exact c
  · obtain ⟨a', e, _, c⟩ := h _ _ (g 2 _ rfl); cases e; rw [← add_add'] at c; exact c
  · obtain ⟨a', e, _, c⟩ := h _ _ (g 3 _ rfl); cases e; rw [← add_add'] at c; exact c
  · obtain ⟨a', e, _, c⟩ := h _ _ (g 4 _ rfl); cases e; rw [← add_add'] at c; exact c
  · obtain ⟨a', e, _, c⟩ := h _ _ (g 5 _ rfl); cases e; rw [← add_add'] at c; exact c
  · obtain ⟨a', e, _, c⟩ := h _ _ (g 6 _ rfl); cases e; rw [← add_add'] at c; exact c
  · obtain ⟨a', e, _, c⟩ := h _ _ (g 7 _ rfl); cases e; rw [← add_add'] at c; exact c
  · obtain ⟨a', e, _, c⟩ := h _ _ (g 8 _ rfl); cases e; rw [← add_add'] at c; exact c
  · obtain ⟨a', e, _, c⟩ := h _ _ (g 9 _ rfl); cases e; rw [← add_add'] at c; exact c
  · obtain ⟨a', e, _, c⟩ := h _ _ (g 10 _ rfl); cases e; rw [← add_add'] at c; exact c
end Go.Proofs.Ytglmhpmjebjcgaa
/- KeydirMoves: the lists that nobody writes into till the end: asked. -/
namespace Go.Proofs.Ytglmhpmjebjcgaa
open Go.RowKit Go.Maps

/-- The lists that were handed out, and what each holds. -/
structure LX (B xb M : Nat) (Lx Wx : Value) (us ws : List Value) (V : World) : Prop where
  box : Box V xb 72 #[Lx, Wx]
  rowL : V.ownsRow B 43 1 Lx us.length us
  rowW : V.ownsRow B 43 1 Wx ws.length ws
  len : ws.length = us.length
  each : ∀ (k : Nat) (u z : Value), us[k]? = some u → ws[k]? = some z → ∃ cs : List KE, cs.length ≤ M ∧ V.ownsRow B 58 7 u cs.length (cs.flatMap keC) ∧ V.ownsRow B 58 7 z cs.length (cs.flatMap keC)
  ne : ∀ (i j b : Nat) (u v : Value), us[i]? = some u → us[j]? = some v → u.ownBlock = some b → v.ownBlock = some b → i = j
  far : ∀ k, Lx.ownBlock = some k → Wx.ownBlock ≠ some k
  low : B ≤ xb
def LXF (xb : Nat) (Lx Wx : Value) (us ws : List Value) (k : Nat) : Prop := k = xb ∨ Lx.ownBlock = some k ∨ Wx.ownBlock = some k ∨ (∃ u ∈ us, u.ownBlock = some k) ∨ ∃ z ∈ ws, z.ownBlock = some k
section
variable {B xb M : Nat} {Lx Wx : Value} {us ws : List Value} {V V' : World}
theorem LX.pair (h : LX B xb M Lx Wx us ws V) {k : Nat} {u : Value} (hu : us[k]? = some u) : ∃ z cs, ws[k]? = some z ∧ cs.length ≤ M ∧ V.ownsRow B 58 7 u cs.length (List.flatMap keC cs) ∧ V.ownsRow B 58 7 z cs.length (cs.flatMap keC) := by
  have hk := (List.getElem?_eq_some_iff.1 hu).1
  have hz : ws[k]? = some (ws[k]'(by rw [h.len]; exact hk)) := List.getElem?_eq_getElem _
  obtain ⟨cs, h1, h2, h3⟩ := h.each k u _ hu hz
  exact ⟨_, cs, hz, h1, h2, h3⟩
theorem LX.pairW (h : LX B xb M Lx Wx us ws V) {k : Nat} {z : Value} (hz : ws[k]? = some z) : ∃ cs : List KE, V.ownsRow B 58 7 z cs.length (cs.flatMap keC) := by
  have hk := (List.getElem?_eq_some_iff.1 hz).1
  have hu : us[k]? = some (us[k]'(by rw [← h.len]; exact hk)) := List.getElem?_eq_getElem _
  obtain ⟨cs, h1, h2, h3⟩ := h.each k _ z hu hz
  exact ⟨cs, h3⟩
theorem LX.keep {S : Nat → Prop} (h : LX B xb M Lx Wx us ws V) (hc : Chg S V V') (hn : ∀ k, LXF xb Lx Wx us ws k → ¬ S k) : LX B xb M Lx Wx us ws V' :=
  ⟨h.box.chg hc (hn _ (.inl rfl)), row_chg h.rowL hc fun k hk => hn k (.inr (.inl hk)), row_chg h.rowW hc fun k hk => hn k (.inr (.inr (.inl hk))), h.len,
   fun k u z hu hz => let ⟨cs, h1, h2, h3⟩ := h.each k u z hu hz; ⟨cs, h1, row_chg h2 hc fun b hb => hn b (.inr (.inr (.inr (.inl ⟨u, List.mem_of_getElem? hu, hb⟩)))), row_chg h3 hc fun b hb => hn b (.inr (.inr (.inr (.inr ⟨z, List.mem_of_getElem? hz, hb⟩))))⟩, h.ne, h.far, h.low⟩
theorem LX.next (h : LX B xb M Lx Wx us ws V) (hb : Below V.heap.size V V') : LX B xb M Lx Wx us ws V' := h.keep (Chg.of_below hb (fun _ => False)) fun _ _ h => h
theorem LX.lt (h : LX B xb M Lx Wx us ws V) {k : Nat} (hk : LXF xb Lx Wx us ws k) : k < V.heap.size := by
  rcases hk with rfl | hk | hk | ⟨u, hu, hk⟩ | ⟨z, hz, hk⟩
  · exact h.box.lt
  · exact row_lt h.rowL hk
  · exact row_lt h.rowW hk
  · obtain ⟨i, hi⟩ := List.mem_iff_getElem?.1 hu
    obtain ⟨_, _, _, _, h2, _⟩ := h.pair hi
    exact row_lt h2 hk
  · obtain ⟨i, hi⟩ := List.mem_iff_getElem?.1 hz
    obtain ⟨_, h2⟩ := h.pairW hi
    exact row_lt h2 hk
end
/-- One more list, and one more that it should be. -/
theorem LX.more {B xb M : Nat} {Lx Wx Lx' Wx' l z : Value} {us ws : List Value} {V V' : World} {cs : List KE} (h : LX B xb M Lx Wx us ws V) (hc : Chg (fun k => k = xb ∨ Lx.ownBlock = some k ∨ Wx.ownBlock = some k) V V') (hx : Box V' xb 72 #[Lx', Wx'])
    (hL : V'.ownsRow B 43 1 Lx' (us.length + 1) (us ++ [l])) (hW : V'.ownsRow B 43 1 Wx' (us.length + 1) (ws ++ [z])) (hl : V'.ownsRow B 58 7 l cs.length (cs.flatMap keC)) (hz : V'.ownsRow B 58 7 z cs.length (cs.flatMap keC)) (hcs : cs.length ≤ M)
    (hln : ∀ k, l.ownBlock = some k → V.heap.size ≤ k) (hfar : ∀ k, Lx'.ownBlock = some k → Wx'.ownBlock ≠ some k) : LX B xb M Lx' Wx' (us ++ [l]) (ws ++ [z]) V' := by
  have hlast : ∀ {α : Type} (L : List α) (x : α) (a : Nat) (u : α), ¬ a < L.length → (L ++ [x])[a]? = some u → a = L.length ∧ u = x := fun L x a u ha hu => by
    rw [List.getElem?_append_right (by omega)] at hu
    have h0 : a - L.length = 0 := by
      have := (List.getElem?_eq_some_iff.1 hu).1
      simp at this
      omega
    rw [h0] at hu
    injection hu with hu
    exact ⟨by omega, hu.symm⟩
  have hkeep : ∀ {n : Nat} {u : Value} {ys : List Value}, V.ownsRow B 58 7 u n ys → V'.ownsRow B 58 7 u n ys := fun hu => row_chg hu hc fun k hk e => by
    rcases e with rfl | e | e
    · exact box_row h.box hu (by decide) hk
    · exact row_row h.rowL hu (by decide) e hk
    · exact row_row h.rowW hu (by decide) e hk
  refine ⟨hx, by simpa using hL, by simpa [h.len] using hW, by simp [h.len], ?_, ?_, hfar, h.low⟩
  · intro k u y hu hy
    by_cases hk : k < us.length
    · rw [List.getElem?_append_left hk] at hu
      rw [List.getElem?_append_left (by rw [h.len]; exact hk)] at hy
      obtain ⟨c2, h1, h2, h3⟩ := h.each k u y hu hy
      exact ⟨c2, h1, hkeep h2, hkeep h3⟩
    · obtain ⟨_, rfl⟩ := hlast us l k u hk hu
      obtain ⟨_, rfl⟩ := hlast ws z k y (by rw [h.len]; exact hk) hy
      exact ⟨cs, hcs, hl, hz⟩
  · intro i j b u v hu hv hb hb'
    have hold : ∀ (a : Nat) (u : Value), us[a]? = some u → u.ownBlock = some b → b < V.heap.size := fun a u hu hb => by
      obtain ⟨_, _, _, _, h2, _⟩ := h.pair hu
      exact row_lt h2 hb
    by_cases hi : i < us.length <;> by_cases hj : j < us.length
    · rw [List.getElem?_append_left hi] at hu
      rw [List.getElem?_append_left hj] at hv
      exact h.ne i j b u v hu hv hb hb'
    · rw [List.getElem?_append_left hi] at hu
      obtain ⟨_, rfl⟩ := hlast us l j v hj hv
      have := hold i u hu hb
      have := hln b hb'
      omega
    · rw [List.getElem?_append_left hj] at hv
      obtain ⟨_, rfl⟩ := hlast us l i u hi hu
      have := hold j v hv hb'
      have := hln b hb
      omega
    · rw [(hlast us l i u hi hu).1, (hlast us l j v hj hv).1]

set_option maxRecDepth 100000 in
set_option maxHeartbeats 8000000 in
theorem asked_any (B xb M m d r : Nat) (v : Value) (xs : List KE) (lo hi : ByteArray) (n : Int) (Lx Wx : Value) (us ws : List Value) (w : World) (hD : DR w d xs) (hR : RR w B r v xs) (h : LX B xb M Lx Wx us ws w) (hlo : lo.size ≤ maxLen) (hhi : hi.size ≤ maxLen) (hn : n ≤ 9223372036854775807) (hN : xs.length ≤ M) (hM : M ≤ 3000000) (hm : us.length = m) (hm2 : m ≤ 1000) (hB : B ≤ w.heap.size) :
    Calls Try.prog 38 #[.pointer (some ⟨xb, 0, none⟩), .pointer (some ⟨d, 0, none⟩), .pointer (some ⟨r, 0, none⟩), .string lo, .string hi, .int .i64 n] w fun e w' => e = .returned (.bool true) ∧
      ∃ Lx' Wx' us' ws', us'.length = m + 1 ∧ LX B xb M Lx' Wx' us' ws' w' ∧ Chg (fun k => k = xb ∨ Lx.ownBlock = some k ∨ Wx.ownBlock = some k) w w' ∧ ∀ k, LXF xb Lx' Wx' us' ws' k → LXF xb Lx Wx us ws k ∨ w.heap.size ≤ k := by
  obtain ⟨i1, hi1, hz1, hs1, hy1⟩ := info_parts infoKE
  obtain ⟨i2, hi2, hz2, hs2, hy2⟩ := info_parts infoLs
  obtain ⟨AL, cL, hLx⟩ := row_slice h.rowL
  obtain ⟨AW, cW, hWx⟩ := row_slice h.rowW
  rw [h.len] at hWx
  rw [hm] at hLx hWx
  subst hLx hWx
  obtain ⟨q, hq⟩ : ∃ q, (sel lo hi xs).take n.toNat = q := ⟨_, rfl⟩
  have hql : q.length ≤ M := by rw [← hq, List.length_take]; exact Nat.le_trans (Nat.min_le_right _ _) (Nat.le_trans (List.length_filter_le _ _) hN)
  obtain ⟨lq, hlq⟩ : ∃ lq, q.length = lq := ⟨_, rfl⟩
  have hlM : lq ≤ M := by omega
  have H := Lib.hid (And.intro h (And.intro hD (And.intro hR (And.intro hq (And.intro hlq hm)))))
  clear h hD hR hq hlq hm hql
  go_enter Try.func38, Try.ntmps38
  go_upto_region 5 with (first
    | (go_at_call 27
       refine (range_all d xs lo hi n _ H.out.2.1 hlo hhi (by omega) hn).mono ?_
       rintro e w2 ⟨v2, rfl, hr2, hb2⟩
       rw [H.out.2.2.2.1, H.out.2.2.2.2.1] at hr2
       obtain ⟨A2, c2, rfl⟩ := row_slice hr2
       have hs2' := hb2.size
       have H2 := Lib.hid (And.intro hr2 (And.intro hb2 (H.out.2.2.1.below hb2)))
       clear hr2 hb2)
    | (go_at_call 29
       refine (range8 B r v lo hi n xs _ H2.out.2.2 hlo hhi (by omega)).mono ?_
       rintro e w3 ⟨v3, rfl, hr3, hb3⟩
       rw [H.out.2.2.2.1, H.out.2.2.2.2.1] at hr3
       obtain ⟨A3, c3, rfl⟩ := row_slice hr3
       have hs3 := hb3.size
       have H3 := Lib.hid (And.intro hr3 hb3)
       clear hr3 hb3)
    | (at_builtin
       refine wpList_app _ rfl (.tmp 20) (.tmp 25) _ rfl w3.heap.size 58 i1 _ 7 64 Try.underlying43 hi1 hz1 hs1 hy1 rfl (by decide) (.slice none 0 0) 0 [] rfl (World.ownsRow_nil _ _ _ _) _ A3 lq c3 (q.flatMap keC) rfl (by rw [keC_len, H.out.2.2.2.2.1]) (row_rd' H3.out.1) (one_ke _) (by unfold maxLen; omega) (by omega) (Nat.le_refl _) ?_
       intro v4 w4 hown hg4 hor
       rw [Nat.zero_add, List.nil_append] at hown
       obtain ⟨A4, c4, rfl⟩ := row_slice hown
       have hb4 : Below w3.heap.size w3 w4 := (Below.refl _ _).grown hg4 (Nat.le_refl _) (fun j e => by cases e)
       have hs4 := hb4.size
       have hb04 : Below w.heap.size w w4 := (H2.out.2.1.trans (H3.out.2.mono hs2')).trans (hb4.mono (by omega))
       have hX4 := H.out.1.next hb04
       have x4c := hX4.box.cell
       have H4 := Lib.hid (And.intro hown (And.intro hb4 (And.intro hb04 hX4)))
       clear hown hg4 hor hb4 hb04 hX4)
    | (at_builtin
       refine wpList_app _ rfl (.tmp 31) (.tmp 33) _ rfl B 43 i2 _ 1 24 Try.underlying33 hi2 hz2 hs2 hy2 rfl (by decide) (.slice AL m cL) m us rfl (by have := (H4.out.2.2.2.next (bal w4 (.cells #[.slice A2 lq c2] 43))).rowL; rw [H.out.2.2.2.2.2] at this; exact this) _ _ 1 1 [.slice A2 lq c2] rfl rfl (rd_new _ _ _) (by simp [Value.oneCell']) (by unfold maxLen; omega) (by omega) (by have := H4.out.2.2.1.size; simp; omega) ?_
       intro v5 w5 hown hg5 hor
       obtain ⟨A5, c5, rfl⟩ := row_slice hown
       have hX3 := H4.out.2.2.2.next (bal w4 (.cells #[.slice A2 lq c2] 43))
       have hx5 := hX3.box.grown hg5 (fun e => box_row hX3.box hX3.rowL (by decide) e.symm)
       have hc5 : Chg (fun k => (Value.slice AL m cL).ownBlock = some k) w4 w5 := ((Chg.refl _ w4).alloc _).grown hg5 (fun k e => .inl e)
       have x5c := hx5.cell
       have x5f := hx5.free
       have x5l := hx5.lt
       have hs5 := hc5.size
       have H5 := Lib.hid (And.intro hown (And.intro hx5 (And.intro hc5 hor)))
       clear hown hg5 hor hX3 hx5 hc5 x4c))
  have hx6 := H5.out.2.1.set_ 0 (.slice A5 (m + 1) c5)
  have hx6' : Box (w5.setCell ⟨xb, 0, none⟩ (.slice A5 (m + 1) c5)) xb 72 #[.slice A5 (m + 1) c5, .slice AW m cW] := by simpa using hx6
  have x6c := hx6'.cell
  have hc6 : Chg (fun k => k = xb ∨ (Value.slice AL m cL).ownBlock = some k) w4 (w5.setCell ⟨xb, 0, none⟩ (.slice A5 (m + 1) c5)) := Chg.setCell (p := ⟨xb, 0, none⟩) (H5.out.2.2.1.mono fun k _ h => .inr h) (.inl (.inl rfl)) _
  have hr6 := row_far H5.out.1 (p := ⟨xb, 0, none⟩) (fun k hk e => by subst e; exact box_row H5.out.2.1 H5.out.1 (by decide) hk) (.slice A5 (m + 1) c5)
  have hw6 : (w5.setCell ⟨xb, 0, none⟩ (.slice A5 (m + 1) c5)).ownsRow B 43 1 (.slice AW m cW) m ws := by
    have := row_chg H4.out.2.2.2.rowW hc6 (fun k hk e => by
      rcases e with rfl | e
      · exact box_row H4.out.2.2.2.box H4.out.2.2.2.rowW (by decide) hk
      · exact H4.out.2.2.2.far k e hk)
    rwa [H4.out.2.2.2.len, H.out.2.2.2.2.2] at this
  generalize hW6 : w5.setCell ⟨xb, 0, none⟩ (.slice A5 (m + 1) c5) = W6 at hx6 hx6' x6c hc6 hr6 hw6 ⊢
  clear hW6 hx6 x5c x5f x5l
  have hs6 := hc6.size
  have H6 := Lib.hid (And.intro hx6' (And.intro hc6 (And.intro hr6 hw6)))
  clear hx6' hc6 hr6 hw6
  go_wp2_with (first
    | (at_builtin
       refine wpList_app _ rfl (.tmp 41) (.tmp 43) _ rfl B 43 i2 _ 1 24 Try.underlying33 hi2 hz2 hs2 hy2 rfl (by decide) (.slice AW m cW) m ws rfl (row_below H6.out.2.2.2 (bal W6 (.cells #[.slice A4 lq c4] 43))) _ _ 1 1 [.slice A4 lq c4] rfl rfl (rd_new _ _ _) (by simp [Value.oneCell']) (by unfold maxLen; omega) (by omega) (by have := H4.out.2.2.1.size; simp; omega) ?_
       intro v7 w7 hown hg7 hor
       obtain ⟨A7, c7, rfl⟩ := row_slice hown
       have hx7 := (H6.out.1.alloc (.cells #[.slice A4 lq c4] 43)).grown hg7 (fun e => box_row (H6.out.1.alloc (.cells #[.slice A4 lq c4] 43)) (row_below H6.out.2.2.2 (bal W6 (.cells #[.slice A4 lq c4] 43))) (by decide) e.symm)
       have hc7 : Chg (fun k => (Value.slice AW m cW).ownBlock = some k) W6 w7 := ((Chg.refl _ W6).alloc _).grown hg7 (fun k e => .inl e)
       have x7c := hx7.cell
       have x7f := hx7.free
       have x7l := hx7.lt
       have hs7 := hc7.size
       have H7 := Lib.hid (And.intro hown (And.intro hx7 (And.intro hc7 hor)))
       clear hown hg7 hor hx7 hc7 x6c)
    | (go_at_call 28
       have hx8 := H7.out.2.1.set_ 1 (.slice A7 (m + 1) c7)
       have hx8' : Box (w7.setCell ⟨xb, 1, none⟩ (.slice A7 (m + 1) c7)) xb 72 #[.slice A5 (m + 1) c5, .slice A7 (m + 1) c7] := by simpa using hx8
       have hc8 : Chg (fun k => k = xb ∨ (Value.slice AW m cW).ownBlock = some k) W6 (w7.setCell ⟨xb, 1, none⟩ (.slice A7 (m + 1) c7)) := Chg.setCell (p := ⟨xb, 1, none⟩) (H7.out.2.2.1.mono fun k _ h => .inr h) (.inl (.inl rfl)) _
       have hr8 := row_far H7.out.1 (p := ⟨xb, 1, none⟩) (fun k hk e => by subst e; exact box_row H7.out.2.1 H7.out.1 (by decide) hk) (.slice A7 (m + 1) c7)
       have hnew5 : ∀ k, (Value.slice A5 (m + 1) c5).ownBlock = some k → (Value.slice AL m cL).ownBlock = some k ∨ k = w4.heap.size + 1 := fun k hk => by
         rcases H5.out.2.2.2 with e | e
         · exact .inl (e ▸ hk)
         · rw [hk] at e; injection e with e; exact .inr (by rw [e]; simp)
       have hnew7 : ∀ k, (Value.slice A7 (m + 1) c7).ownBlock = some k → (Value.slice AW m cW).ownBlock = some k ∨ k = W6.heap.size + 1 := fun k hk => by
         rcases H7.out.2.2.2 with e | e
         · exact .inl (e ▸ hk)
         · rw [hk] at e; injection e with e; exact .inr (by rw [e]; simp)
       have hLf : ∀ k, (Value.slice AL m cL).ownBlock = some k → k < w4.heap.size := fun k hk => row_lt H4.out.2.2.2.rowL hk
       have hWf : ∀ k, (Value.slice AW m cW).ownBlock = some k → k < w4.heap.size := fun k hk => row_lt H4.out.2.2.2.rowW hk
       have hl5 : ∀ k, (Value.slice A5 (m + 1) c5).ownBlock = some k → k < W6.heap.size := fun k hk => row_lt H6.out.2.2.1 hk
       have hL8 := row_chg H6.out.2.2.1 hc8 fun k hk e => by
         rcases e with rfl | e
         · exact box_row H6.out.1 H6.out.2.2.1 (by decide) hk
         · rcases hnew5 k hk with e2 | e2
           · exact H4.out.2.2.2.far k e2 e
           · have := hWf k e; omega
       have hcS : Chg (fun k => k = xb ∨ (Value.slice AL m cL).ownBlock = some k ∨ (Value.slice AW m cW).ownBlock = some k) w4 (w7.setCell ⟨xb, 1, none⟩ (.slice A7 (m + 1) c7)) :=
         (H6.out.2.1.mono fun k _ h => h.imp id .inl).trans ⟨hc8.os, hc8.tape, hc8.output, hc8.size, fun k hk hn' => hc8.block k hk fun e => hn' (e.imp id .inr)⟩
       have hrow : ∀ {b0 n0 : Nat} {u : Value} {ys : List Value}, w4.ownsRow b0 58 7 u n0 ys → (w7.setCell ⟨xb, 1, none⟩ (.slice A7 (m + 1) c7)).ownsRow b0 58 7 u n0 ys := fun hu => row_chg hu hcS fun k hk e => by
         rcases e with rfl | e | e
         · exact box_row H4.out.2.2.2.box hu (by decide) hk
         · exact row_row H4.out.2.2.2.rowL hu (by decide) e hk
         · exact row_row H4.out.2.2.2.rowW hu (by decide) e hk
       have hl8 := hrow (row_below (row_below H2.out.1 H3.out.2) H4.out.2.1)
       have hz8 := hrow H4.out.1
       generalize hW8 : w7.setCell ⟨xb, 1, none⟩ (.slice A7 (m + 1) c7) = W8 at hx8 hx8' hc8 hr8 hL8 hcS hl8 hz8 ⊢
       refine (sameItems_eq A2 A4 lq c2 c4 q _ (row_rd' hl8) (row_rd' hz8) H.out.2.2.2.2.1 (by omega)).mono ?_
       rintro e w9 ⟨rfl, hb9⟩
       have hcW : Chg (fun k => k = xb ∨ (Value.slice AL m cL).ownBlock = some k ∨ (Value.slice AW m cW).ownBlock = some k) w w9 := ((Chg.of_below H4.out.2.2.1 _).trans hcS).trans (Chg.of_below hb9 _)
       have hln : ∀ k, (Value.slice A2 lq c2).ownBlock = some k → w.heap.size ≤ k := fun k hk => row_ge H2.out.1 hk
       have hzn : ∀ k, (Value.slice A4 lq c4).ownBlock = some k → w.heap.size ≤ k := fun k hk => by have := row_ge H4.out.1 hk; omega
       have hB2 := row_le (row_below hl8 hb9) hB
       have hB4 := row_le (row_below hz8 hb9) (show B ≤ w3.heap.size by omega)
       have hm' := H.out.2.2.2.2.2
       have hfar8 : ∀ k, (Value.slice A5 (m + 1) c5).ownBlock = some k → (Value.slice A7 (m + 1) c7).ownBlock ≠ some k := fun k hk hk' => by
         rcases hnew5 k hk with e | e
         · rcases hnew7 k hk' with e2 | e2
           · exact H4.out.2.2.2.far k e e2
           · have := hLf k e; omega
         · rcases hnew7 k hk' with e2 | e2
           · have := hWf k e2; omega
           · have := hl5 k hk; omega
       have hXF := H.out.1.more (l := .slice A2 lq c2) (z := .slice A4 lq c4) (cs := q) hcW (hx8'.below hb9 hx8'.lt) (by rw [hm']; exact row_below hL8 hb9) (by rw [hm']; exact row_below hr8 hb9) (by rw [H.out.2.2.2.2.1]; exact hB2) (by rw [H.out.2.2.2.2.1]; exact hB4) (by rw [H.out.2.2.2.2.1]; exact hlM) hln hfar8
       have hFF : ∀ k, LXF xb (.slice A5 (m + 1) c5) (.slice A7 (m + 1) c7) (us ++ [.slice A2 lq c2]) (ws ++ [.slice A4 lq c4]) k → LXF xb (.slice AL m cL) (.slice AW m cW) us ws k ∨ w.heap.size ≤ k := fun k hk => by
         rcases hk with e | e | e | ⟨u, hu, e⟩ | ⟨z, hz, e⟩
         · exact .inl (.inl e)
         · rcases hnew5 k e with e2 | e2
           · exact .inl (.inr (.inl e2))
           · exact .inr (by omega)
         · rcases hnew7 k e with e2 | e2
           · exact .inl (.inr (.inr (.inl e2)))
           · exact .inr (by omega)
         · rcases List.mem_append.1 hu with hu | hu
           · exact .inl (.inr (.inr (.inr (.inl ⟨u, hu, e⟩))))
           · rcases List.mem_singleton.1 hu with rfl
             exact .inr (hln k e)
         · rcases List.mem_append.1 hz with hz | hz
           · exact .inl (.inr (.inr (.inr (.inr ⟨z, hz, e⟩))))
           · rcases List.mem_singleton.1 hz with rfl
             exact .inr (hzn k e)
       have H9 := Lib.hid (And.intro hXF (And.intro hcW hFF))
       clear hx8 hx8' hc8 hr8 hnew5 hnew7 hLf hWf hl5 hL8 hcS hrow hl8 hz8 hW8 hb9 hcW hln hzn hB2 hB4 hfar8 hXF hFF))
  go_ret
  exact ⟨rfl, _, _, _, _, by simp [H.out.2.2.2.2.2], H9.out.1, H9.out.2.1, H9.out.2.2⟩
end Go.Proofs.Ytglmhpmjebjcgaa
/- KeydirMoves: alone. -/
namespace Go.Proofs.Ytglmhpmjebjcgaa
open Go.RowKit Go.Maps

theorem LX.cell {B xb M m cL k : Nat} {AL : Option Addr} {Wx : Value} {us ws : List Value} {w : World} {u : Value} (h : LX B xb M (.slice AL m cL) Wx us ws w) (hm : us.length = m) (hu : us[k]? = some u) : ∃ g, AL = some ⟨g, 0, none⟩ ∧ w.cell? ⟨g, k, none⟩ = some u ∧ m ≤ cL := by
  have hk := (List.getElem?_eq_some_iff.1 hu).1
  have hr := h.rowL
  rw [hm] at hr
  obtain ⟨g, rfl, ho⟩ := own_g hr (by omega)
  refine ⟨g, rfl, ?_, row_cap hr⟩
  rw [ho.cell (by simpa using hk)]
  rw [List.getElem?_eq_getElem hk] at hu
  exact hu
theorem LX.cellW {B xb M m cW k : Nat} {AW : Option Addr} {Lx : Value} {us ws : List Value} {w : World} {u : Value} (h : LX B xb M Lx (.slice AW m cW) us ws w) (hm : ws.length = m) (hu : ws[k]? = some u) : ∃ g, AW = some ⟨g, 0, none⟩ ∧ w.cell? ⟨g, k, none⟩ = some u ∧ m ≤ cW := by
  have hk := (List.getElem?_eq_some_iff.1 hu).1
  have hr := h.rowW
  rw [hm] at hr
  obtain ⟨g, rfl, ho⟩ := own_g hr (by omega)
  refine ⟨g, rfl, ?_, row_cap hr⟩
  rw [ho.cell (by simpa using hk)]
  rw [List.getElem?_eq_getElem hk] at hu
  exact hu

set_option maxRecDepth 100000 in
set_option maxHeartbeats 8000000 in
theorem alone_any (B xb M m : Nat) (Lx Wx : Value) (us ws : List Value) (w : World) (h : LX B xb M Lx Wx us ws w) (hM : M ≤ 3000000) (hm : us.length = m) (hm2 : m ≤ 1000) (hB : B ≤ w.heap.size) :
    Calls Try.prog 39 #[.pointer (some ⟨xb, 0, none⟩)] w fun e w' => e = .returned (.bool true) ∧ Below B w w' := by
  obtain ⟨AL, cL, hLx⟩ := row_slice h.rowL
  obtain ⟨AW, cW, hWx⟩ := row_slice h.rowW
  rw [h.len] at hWx
  rw [hm] at hLx hWx
  subst hLx hWx
  have hb0 := h.box.cell
  have H := Lib.hid (And.intro h hm)
  clear h hm
  go_enter Try.func39, Try.ntmps39
  go_wp2
  go_loopw [3] (fun t wr => ∃ i, i ≤ m ∧ t = .int .i64 (i : Nat) ∧ Below w.heap.size w wr) (fun t _ => m - (intOf t).toNat)
  case atStart => exact ⟨0, Nat.zero_le _, rfl, Below.refl _ _⟩
  case round =>
    obtain ⟨i, hi, rfl, hb⟩ := hrel
    have hX := H.out.1.next hb
    have hbc := hX.box.cell
    clear hb0
    by_cases hlt : i < m
    · have hi1 : (i : Int) < m := by omega
      have hi0 : (0 : Int) ≤ i := by omega
      obtain ⟨u, hu⟩ : ∃ u, us[i]? = some u := ⟨_, List.getElem?_eq_getElem (by rw [H.out.2]; exact hlt)⟩
      obtain ⟨z, cs, hz, hcs, hru, hrz⟩ := hX.pair hu
      obtain ⟨g, rfl, hgc, hcc⟩ := hX.cell H.out.2 hu
      obtain ⟨g', rfl, hgc', hcc'⟩ := hX.cellW (by rw [hX.len]; exact H.out.2) hz
      obtain ⟨A1, c1, rfl⟩ := row_slice hru
      obtain ⟨A2, c2, rfl⟩ := row_slice hrz
      have hrd1 : ∀ k, Rd (wr.drewN k) (wr.drewN k).heap.size A1 (cs.flatMap keC) := fun k => (row_rd' hru).below (below_drewN (Below.refl _ _) k)
      have hrd2 : ∀ k, Rd (wr.drewN k) (wr.drewN k).heap.size A2 (cs.flatMap keC) := fun k => (row_rd' hrz).below (below_drewN (Below.refl _ _) k)
      have HR := Lib.hid (And.intro hrd1 (And.intro hrd2 (And.intro hcs hb)))
      clear hrd1 hrd2 hX hu hz hru hrz hb hcs
      go_wp2
      go_quiet ((go_at_call 28; exact Calls.quiet_of (sameItems_q A1 A2 _ c1 c2 cs _ (HR.out.1 _) (HR.out.2.1 _) rfl (by have := HR.out.2.2.1; omega))))
      clear hbc hgc hgc'
      go_wp2
      go_roundw
      case rel => exact ⟨i + 1, by omega, by go_num, below_drewN HR.out.2.2.2 _⟩
      case measure => simp [intOf]; omega
    · have hi1 : ¬ (i : Int) < m := by omega
      have hws := hb.size
      have HX := Lib.hid (And.intro hX hb)
      clear hX hb
      go_wp2
      clear hbc
      have hxb := Box.new wr 35 #[.slice none 0 0, .slice none 0 0, .slice none 0 0]
      have hbw := bal wr (.cells #[.slice none 0 0, .slice none 0 0, .slice none 0 0] 35)
      obtain ⟨W1, hW1⟩ : ∃ W1, wr.alloc (.cells #[.slice none 0 0, .slice none 0 0, .slice none 0 0] 35) = W1 := ⟨_, rfl⟩
      obtain ⟨s1, hs1⟩ : ∃ s1, wr.heap.size = s1 := ⟨_, rfl⟩
      have hsz1 : W1.heap.size = s1 + 1 := by rw [← hW1, ← hs1]; simp
      rw [hs1] at hxb hbw hws ⊢
      rw [hW1] at hxb hbw ⊢
      have hX1 := HX.out.1.next (by rw [hs1]; exact hbw)
      have hxl : xb < s1 := by rw [← hs1]; exact HX.out.1.box.lt
      have huz : ∀ (j : Nat) (u : Value), us[j]? = some u → ∀ k, u.ownBlock = some k → k < s1 := fun j u hu k hk => by
        obtain ⟨_, _, _, _, h2, _⟩ := HX.out.1.pair hu
        rw [← hs1]; exact row_lt h2 hk
      have hLl : ∀ k, (Value.slice AL m cL).ownBlock = some k → k < s1 := fun k hk => by rw [← hs1]; exact row_lt HX.out.1.rowL hk
      have HY := Lib.hid (And.intro hX1 (And.intro hxb (And.intro hbw (And.intro huz (And.intro hLl (And.intro hs1 hxl))))))
      clear hX1 hxb hbw huz hLl hW1 hs1 hxl
      go_loopw [5] (fun t wq => ∃ (j : Nat) (Lv : Value), j ≤ m ∧ t = .int .i64 (j : Nat) ∧ Box wq s1 35 #[.slice none 0 0, .slice none 0 0, Lv] ∧ LW B Lv (us.take j) M wq ∧ (∀ k, Lv.ownBlock = some k → s1 < k) ∧ Chg (fun k => k = s1 ∨ ∃ (a : Nat) (u : Value), a < j ∧ us[a]? = some u ∧ u.ownBlock = some k) W1 wq) (fun t _ => m - (intOf t).toNat)
      case atStart => exact ⟨0, .slice none 0 0, Nat.zero_le _, rfl, HY.out.2.1, ⟨by simpa using World.ownsRow_nil _ _ _ _, fun k u hu => by simp at hu, fun i j b u v hu => by simp at hu⟩, fun k hk => by simp [Value.ownBlock] at hk, Chg.refl _ _⟩
      case round =>
        obtain ⟨j, Lv, hj, rfl, hbq, hLq, hLn, hcq⟩ := hrel
        have hkx : Box wr xb 72 #[.slice AL m cL, .slice AW m cW] := HY.out.1.box.chg hcq (by
          rintro (e | ⟨a, u, _, hu, e⟩)
          · have := HY.out.2.2.2.2.2.2; omega
          · obtain ⟨_, _, _, _, h2, _⟩ := HY.out.1.pair hu
            exact box_row HY.out.1.box h2 (by decide) e)
        have hrl := row_chg HY.out.1.rowL hcq (fun k hk => by
          rintro (e | ⟨a, u, _, hu, e⟩)
          · have := HY.out.2.2.2.2.1 k hk; omega
          · obtain ⟨_, _, _, _, h2, _⟩ := HY.out.1.pair hu
            exact row_row HY.out.1.rowL h2 (by decide) hk e)
        have hkc := hkx.cell
        have hqs := hcq.size
        by_cases hjm : j < m
        · have hj1 : (j : Int) < m := by omega
          have hj0 : (0 : Int) ≤ j := by omega
          obtain ⟨u, hu⟩ : ∃ u, us[j]? = some u := ⟨_, List.getElem?_eq_getElem (by rw [H.out.2]; exact hjm)⟩
          obtain ⟨z, cs, hz, hcs, hru, hrz⟩ := HY.out.1.pair hu
          have hru2 := row_chg hru hcq (fun k hk => by
            rintro (e | ⟨a, v, ha, hv, e⟩)
            · have := HY.out.2.2.2.1 j u hu k hk; omega
            · have := HY.out.1.ne a j k v u hv hu e hk; omega)
          have hfar : ∀ k, u.ownBlock = some k → ¬ LF Lv (us.take j) k := fun k hk hf => by
            rcases hf with e | ⟨v, hv, e⟩
            · have := hLn k e
              have := HY.out.2.2.2.1 j u hu k hk
              omega
            · obtain ⟨a, ha⟩ := List.mem_iff_getElem?.1 hv
              have hal := (List.getElem?_eq_some_iff.1 ha).1
              rw [List.length_take] at hal
              rw [List.getElem?_take, if_pos (by omega)] at ha
              have := HY.out.1.ne a j k v u ha hu e hk
              omega
          obtain ⟨g, hAL, ho⟩ := own_g (by rw [H.out.2] at hrl; exact hrl) (show 0 < m by omega)
          have hgc : wr.cell? ⟨g, j, none⟩ = some u := by
            have hjl : j < us.length := by rw [H.out.2]; exact hjm
            rw [ho.cell hjl]
            rw [List.getElem?_eq_getElem hjl] at hu
            exact hu
          have hcc : m ≤ cL := row_cap (by rw [H.out.2] at hrl; exact hrl)
          have htk : us.take j ++ [u] = us.take (j + 1) := by
            have hjl : j < us.length := by rw [H.out.2]; exact hjm
            rw [List.getElem?_eq_getElem hjl] at hu
            injection hu with hu
            rw [List.take_succ_eq_append_getElem hjl, hu]
          have hBq : B ≤ wr.heap.size := by have := HY.out.2.2.1.size; omega
          have HK := Lib.hid (And.intro hbq (And.intro hLq (And.intro hru2 (And.intro hfar (And.intro hcs (And.intro htk (And.intro hLn (And.intro hcq (And.intro hBq hu)))))))))
          subst hAL
          clear hbq hLq hru2 hfar hcs htk hLn hcq hBq hu hz hru hrz hkx hrl ho
          go_wp2_with (first
            | (go_at_call 30
               refine (keep_any B s1 cs.length M j _ _ Lv u (us.take j) cs _ HK.out.1 HK.out.2.1 HK.out.2.2.1 HK.out.2.2.2.2.1 (by omega) (by rw [List.length_take, H.out.2]; omega) (by omega) HK.out.2.2.2.2.2.2.2.2.1 HK.out.2.2.2.1).mono ?_
               rintro e w5 ⟨⟨ve, rfl⟩, Lv', hx5, hL5, hc5, hv5⟩
               rw [HK.out.2.2.2.2.2.1] at hL5
               have hLn5 : ∀ k, Lv'.ownBlock = some k → s1 < k := fun k hk => by
                 rcases hv5 k hk with e | e
                 · exact HK.out.2.2.2.2.2.2.1 k e
                 · omega
               have hcF : Chg (fun k => k = s1 ∨ ∃ (a : Nat) (u : Value), a < j + 1 ∧ us[a]? = some u ∧ u.ownBlock = some k) W1 w5 := by
                 have hq := HK.out.2.2.2.2.2.2.2.1
                 refine ⟨hc5.os.trans hq.os, hc5.tape.trans hq.tape, hc5.output.trans hq.output, Nat.le_trans hq.size hc5.size, fun k hk hn' => (hc5.block k (Nat.lt_of_lt_of_le hk hq.size) ?_).trans (hq.block k hk fun e => hn' (e.imp id fun ⟨a, v, h1, h2, h3⟩ => ⟨a, v, by omega, h2, h3⟩))⟩
                 rintro (e | e | e)
                 · exact hn' (.inl e)
                 · have := HK.out.2.2.2.2.2.2.1 k e
                   omega
                 · exact hn' (.inr ⟨j, u, by omega, HK.out.2.2.2.2.2.2.2.2.2, e⟩)
               have H5 := Lib.hid (And.intro hx5 (And.intro hL5 (And.intro hLn5 hcF)))
               clear hx5 hL5 hc5 hv5 hLn5 hcF))
          go_roundw
          case rel => exact ⟨j + 1, Lv', by omega, by go_num, H5.out.1, H5.out.2.1, H5.out.2.2.1, H5.out.2.2.2⟩
          case measure => simp [intOf]; omega
        · have hj1 : ¬ (j : Int) < m := by omega
          obtain rfl : j = m := by omega
          have hut : us.take j = us := List.take_of_length_le (by rw [H.out.2]; omega)
          rw [hut] at hLq
          have HK := Lib.hid (And.intro hbq (And.intro hLq hcq))
          clear hbq hLq hcq hkx hrl hut
          go_wp2_with (first
            | (go_at_call 7
               refine (stands_any B s1 M j _ _ Lv us _ HK.out.1 HK.out.2.1 (by omega) H.out.2 (by omega)).mono ?_
               rintro e w6 ⟨rfl, hw6⟩
               subst hw6))
          go_ret
          refine ⟨rfl, ?_⟩
          have hB1 : Below B w W1 := (HX.out.2.mono hB).trans (HY.out.2.2.1.mono (by omega))
          refine hB1.trans (HK.out.2.2.below (by have := HY.out.2.2.1.size; omega) fun k hk => ?_)
          rcases hk with e | ⟨a, u, _, hu, e⟩
          · omega
          · obtain ⟨_, _, _, _, h2, _⟩ := HY.out.1.pair hu
            exact row_ge h2 e
end Go.Proofs.Ytglmhpmjebjcgaa
/- KeydirMoves: how the law's world begins; the moves one by one. -/
namespace Go.Proofs.Ytglmhpmjebjcgaa
open Go.RowKit Go.Maps

def two (a b : Nat) (i : Nat) : Nat := if i = 0 then a else b
theorem box_row2 {w : World} {B g a b : Nat} {t : TypeId} (hg : Box w g t #[.pointer (some ⟨a, 0, none⟩), .pointer (some ⟨b, 0, none⟩)]) (hB : B ≤ g) : w.ownsRow B t 1 (.slice (some ⟨g, 0, none⟩) 2 2) 2 (ptrs (two a b) 2) :=
  ⟨rfl, .inr ⟨g, 2, _, rfl, hB, hg, Nat.le_refl _, by unfold maxLen; decide, rfl, rfl⟩⟩
abbrev Start (d0 d1 r0 r1 g g' : Nat) : St := St.at 2 (two d0 d1) (two r0 r1) (fun _ => .slice none 0 0) (fun _ => []) g 2 g' 2
theorem DW.start {B wb d0 d1 r0 r1 g g' : Nat} {w : World} (hx : Box w wb 35 #[.slice (some ⟨g, 0, none⟩) 2 2, .slice (some ⟨g', 0, none⟩) 2 2, .slice none 0 0])
    (hg : Box w g 23 #[.pointer (some ⟨d0, 0, none⟩), .pointer (some ⟨d1, 0, none⟩)]) (hg' : Box w g' 30 #[.pointer (some ⟨r0, 0, none⟩), .pointer (some ⟨r1, 0, none⟩)])
    (D0 : DR w d0 []) (D1 : DR w d1 []) (R0 : RR w B r0 (.slice none 0 0) []) (R1 : RR w B r1 (.slice none 0 0) []) (hd : d0 ≠ d1) (hr : r0 ≠ r1) (hl : B ≤ wb ∧ B ≤ g ∧ B ≤ g' ∧ B ≤ d0 ∧ B ≤ d1 ∧ B ≤ r0 ∧ B ≤ r1) :
    DW B wb (.slice none 0 0) 0 (Start d0 d1 r0 r1 g g') w := by
  have h01 : ∀ i, i < 2 → i = 0 ∨ i = 1 := fun i hi => by omega
  refine ⟨hx, ⟨show 1 ≤ 2 by decide, show 2 ≤ 8 by decide⟩, box_row2 hg hl.2.1, box_row2 hg' hl.2.2.1, ?_, ?_, ⟨hl.1, ?_⟩, fun _ _ => Nat.le_refl _, ?_, ?_, ?_⟩
  · intro i hi
    rcases h01 i hi with rfl | rfl
    · exact D0
    · exact D1
  · intro i hi
    rcases h01 i hi with rfl | rfl
    · exact R0
    · exact R1
  · intro i hi
    rcases h01 i hi with rfl | rfl
    · exact ⟨hl.2.2.2.1, hl.2.2.2.2.2.1⟩
    · exact ⟨hl.2.2.2.2.1, hl.2.2.2.2.2.2⟩
  · intro i j hi hj e
    rcases h01 i hi with rfl | rfl <;> rcases h01 j hj with rfl | rfl
    · rfl
    · exact absurd e hd
    · exact absurd e.symm hd
    · rfl
  · intro i j hi hj e
    rcases h01 i hi with rfl | rfl <;> rcases h01 j hj with rfl | rfl
    · rfl
    · exact absurd e hr
    · exact absurd e.symm hr
    · rfl
  · intro i j b hi hj e
    cases e
theorem dir_zero (w : World) : DR (w.alloc (.cells #[.pointer none] 28)) w.heap.size [] := ⟨.leaf, none, Box.new w _ _, rfl, rfl, List.Pairwise.nil, fun x h => by cases h⟩

set_option maxRecDepth 100000 in
set_option maxHeartbeats 8000000 in
theorem first_half (A : Option Addr) (n c : Nat) (ms : List Mv) (w : World) (hA : Rd w w.heap.size A (ms.flatMap mvC)) (hn : ms.length = n) (hN : n ≤ 2000000) (hok : ∀ m ∈ ms, m.Ok)
    (hun : ∀ W, Below w.heap.size w W → Calls Try.prog 9 #[.slice A n c] W fun e w' => e = .returned (.bool true) ∧ Below W.heap.size W w') :
    Calls Try.prog 3 #[.slice A n c] w fun e w' => e = .returned (.bool true) ∧ Below w.heap.size w w' := by
  have H := Lib.hid (And.intro hA (And.intro hn (And.intro hok hun)))
  clear hA hn hok hun
  go_enter Try.func3, Try.ntmps3
  go_wp2_with (first
    | (go_at_call 4
       refine (new_any w).mono ?_
       rintro e w1 ⟨rfl, hd1, hb1⟩
       have hs1 := hb1.size
       have hl1 := hd1.lt
       have H1 := Lib.hid (And.intro hd1 hb1)
       have T0 := Lib.hid hs1
       clear hd1 hb1)
    | (go_at_call 5
       have z0 := T0
       clear z0
       refine (new8 w.heap.size _).mono ?_
       rintro e w4 ⟨rfl, hr4, hb4⟩
       have hs4 := hb4.size
       have hl4 := hr4.1.lt
       simp only [World.size_alloc] at hb4 hs4 hl4 hr4
       have H4 := Lib.hid (And.intro hr4 hb4)
       have T1 := Lib.hid hs4
       clear hr4 hb4 T0)
    | (go_at_call 5
       have z1 := T1
       clear z1
       refine (new8 w.heap.size _).mono ?_
       rintro e w5 ⟨rfl, hr5, hb5⟩
       have hs5 := hb5.size
       have hl5 := hr5.1.lt
       have H5 := Lib.hid (And.intro hr5 hb5)
       clear hr5 hb5 T1))
  have hbA : Below w1.heap.size w1 ((w1.alloc (.cells #[.pointer none] 28)).alloc (.cells #[.pointer (some ⟨w.heap.size, 0, none⟩), .pointer (some ⟨w1.heap.size, 0, none⟩)] 23)) := by repeat (first | exact Below.refl _ _ | refine Below.alloc ?_ (by simp <;> omega) _)
  have hbB : Below w5.heap.size w5 ((w5.alloc (.cells #[.pointer (some ⟨w1.heap.size + 1 + 1, 0, none⟩), .pointer (some ⟨w4.heap.size, 0, none⟩)] 30)).alloc (.cells #[.slice (some ⟨w1.heap.size + 1, 0, none⟩) 2 2, .slice (some ⟨w5.heap.size, 0, none⟩) 2 2, .slice none 0 0] 35)) := by repeat (first | exact Below.refl _ _ | refine Below.alloc ?_ (by simp <;> omega) _)
  have hb34 : Below (w1.heap.size + 1 + 1) ((w1.alloc (.cells #[.pointer none] 28)).alloc (.cells #[.pointer (some ⟨w.heap.size, 0, none⟩), .pointer (some ⟨w1.heap.size, 0, none⟩)] 23)) w4 := H4.out.2
  have b17 : Below w1.heap.size w1 ((w5.alloc (.cells #[.pointer (some ⟨w1.heap.size + 1 + 1, 0, none⟩), .pointer (some ⟨w4.heap.size, 0, none⟩)] 30)).alloc (.cells #[.slice (some ⟨w1.heap.size + 1, 0, none⟩) 2 2, .slice (some ⟨w5.heap.size, 0, none⟩) 2 2, .slice none 0 0] 35)) := ((hbA.trans (hb34.mono (by omega))).trans (H5.out.2.mono (by omega))).trans (hbB.mono (by omega))
  have b37 : Below (w1.heap.size + 1 + 1) ((w1.alloc (.cells #[.pointer none] 28)).alloc (.cells #[.pointer (some ⟨w.heap.size, 0, none⟩), .pointer (some ⟨w1.heap.size, 0, none⟩)] 23)) ((w5.alloc (.cells #[.pointer (some ⟨w1.heap.size + 1 + 1, 0, none⟩), .pointer (some ⟨w4.heap.size, 0, none⟩)] 30)).alloc (.cells #[.slice (some ⟨w1.heap.size + 1, 0, none⟩) 2 2, .slice (some ⟨w5.heap.size, 0, none⟩) 2 2, .slice none 0 0] 35)) := (hb34.trans (H5.out.2.mono (by omega))).trans (hbB.mono (by omega))
  have b47 : Below w4.heap.size w4 ((w5.alloc (.cells #[.pointer (some ⟨w1.heap.size + 1 + 1, 0, none⟩), .pointer (some ⟨w4.heap.size, 0, none⟩)] 30)).alloc (.cells #[.slice (some ⟨w1.heap.size + 1, 0, none⟩) 2 2, .slice (some ⟨w5.heap.size, 0, none⟩) 2 2, .slice none 0 0] 35)) := H5.out.2.trans (hbB.mono (by omega))
  have hd1' : DR ((w1.alloc (.cells #[.pointer none] 28)).alloc (.cells #[.pointer (some ⟨w.heap.size, 0, none⟩), .pointer (some ⟨w1.heap.size, 0, none⟩)] 23)) w1.heap.size [] := (dir_zero w1).next (bal _ _)
  have hg3 := Box.new (w1.alloc (.cells #[.pointer none] 28)) 23 #[.pointer (some ⟨w.heap.size, 0, none⟩), .pointer (some ⟨w1.heap.size, 0, none⟩)]
  have hg6 := Box.new w5 30 #[.pointer (some ⟨w1.heap.size + 1 + 1, 0, none⟩), .pointer (some ⟨w4.heap.size, 0, none⟩)]
  have hw7 := Box.new (w5.alloc (.cells #[.pointer (some ⟨w1.heap.size + 1 + 1, 0, none⟩), .pointer (some ⟨w4.heap.size, 0, none⟩)] 30)) 35 #[.slice (some ⟨w1.heap.size + 1, 0, none⟩) 2 2, .slice (some ⟨w5.heap.size, 0, none⟩) 2 2, .slice none 0 0]
  simp only [World.size_alloc] at hg3 hw7
  have hz3 : ((w1.alloc (.cells #[.pointer none] 28)).alloc (.cells #[.pointer (some ⟨w.heap.size, 0, none⟩), .pointer (some ⟨w1.heap.size, 0, none⟩)] 23)).heap.size = w1.heap.size + 1 + 1 := by simp
  have hDW : DW w.heap.size (w5.heap.size + 1) (.slice none 0 0) 0 (Start w.heap.size w1.heap.size (w1.heap.size + 1 + 1) w4.heap.size (w1.heap.size + 1) w5.heap.size) ((w5.alloc (.cells #[.pointer (some ⟨w1.heap.size + 1 + 1, 0, none⟩), .pointer (some ⟨w4.heap.size, 0, none⟩)] 30)).alloc (.cells #[.slice (some ⟨w1.heap.size + 1, 0, none⟩) 2 2, .slice (some ⟨w5.heap.size, 0, none⟩) 2 2, .slice none 0 0] 35)) :=
    DW.start hw7 (hg3.below b37 (by omega)) (hg6.alloc _) (H1.out.1.next b17) (hd1'.next (by rw [hz3]; exact b37)) (H4.out.1.below b47) (H5.out.1.below hbB) (by omega) (by omega) ⟨by omega, by omega, by omega, by omega, by omega, by omega, by omega⟩
  have hB07 : Below w.heap.size w ((w5.alloc (.cells #[.pointer (some ⟨w1.heap.size + 1 + 1, 0, none⟩), .pointer (some ⟨w4.heap.size, 0, none⟩)] 30)).alloc (.cells #[.slice (some ⟨w1.heap.size + 1, 0, none⟩) 2 2, .slice (some ⟨w5.heap.size, 0, none⟩) 2 2, .slice none 0 0] 35)) := H1.out.2.trans (b17.mono (by omega))
  generalize hW7 : ((w5.alloc (.cells #[.pointer (some ⟨w1.heap.size + 1 + 1, 0, none⟩), .pointer (some ⟨w4.heap.size, 0, none⟩)] 30)).alloc (.cells #[.slice (some ⟨w1.heap.size + 1, 0, none⟩) 2 2, .slice (some ⟨w5.heap.size, 0, none⟩) 2 2, .slice none 0 0] 35)) = W7 at hDW hB07 ⊢
  clear hW7 hbA hbB hb34 b17 b37 b47 hd1' hg3 hg6 hw7 hz3
  obtain ⟨s0, hs0⟩ : ∃ s0, s0 = (Start w.heap.size w1.heap.size (w1.heap.size + 1 + 1) w4.heap.size (w1.heap.size + 1) w5.heap.size) := ⟨_, rfl⟩
  rw [← hs0] at hDW
  have hWW : WW w.heap.size (w5.heap.size + 1) 0 3000000 (.slice none 0 0) [] s0 W7 := ⟨hDW, ⟨World.ownsRow_nil _ _ _ _, fun k u hu => by simp at hu, fun i j b u v hu => by simp at hu⟩, fun k hk => by rcases hk with e | ⟨u, hu, _⟩; cases e; cases hu⟩
  clear hs0 hDW
  obtain ⟨wb, hwb⟩ : ∃ wb, w5.heap.size + 1 = wb := ⟨_, rfl⟩
  rw [hwb] at hWW ⊢
  have H7 := Lib.hid (And.intro hWW hB07)
  clear hWW hB07 hwb
  go_loopw [5] (fun t wr => ∃ (i : Nat) (Lv : Value) (us : List Value) (s : St), i ≤ n ∧ t = .int .i64 (i : Nat) ∧ us.length ≤ i ∧ WW w.heap.size wb i 3000000 Lv us s wr ∧ Below w.heap.size w wr) (fun t _ => n - (intOf t).toNat)
  case atStart => exact ⟨0, _, _, _, Nat.zero_le _, rfl, Nat.le_refl _, H7.out.1, H7.out.2⟩
  case round =>
    obtain ⟨i, Lv, us, s, hi, rfl, hus, hW, hB⟩ := hrel
    by_cases hlt : i < n
    · have hi1 : (i : Int) < n := by omega
      have hi0 : (0 : Int) ≤ i := by omega
      have hil : i < ms.length := by rw [H.out.2.1]; exact hlt
      obtain ⟨ad, rfl, had, a0, a1, a2, a3, a4, a5, a6, a7, a8, a9, a10⟩ := (H.out.1.below hB).mv hil
      have hmok := H.out.2.2.1 ms[i] (List.getElem_mem hil)
      generalize ms[i] = m at a0 a1 a2 a3 a4 a5 a6 a7 a8 a9 a10 hmok
      have HR := Lib.hid (And.intro hW (And.intro hB (And.intro hmok hus)))
      clear hW hB hmok hus
      go_wp2_with (first
        | (go_at_call 6
           refine (told_any w.heap.size wb i 3000000 Lv us s m _ HR.out.1 HR.out.2.2.1 (by omega) (by omega) (by omega) (by have := HR.out.2.2.2; omega)).mono ?_
           rintro e w9 ⟨rfl, Lv', us', s', hu', hW', hB'⟩
           have H9 := Lib.hid (And.intro hW' (And.intro hB' hu'))
           clear hW' hB' hu')
        | (go_at_call 7
           refine (stands_any w.heap.size wb 3000000 us'.length _ _ Lv' us' _ H9.out.1.dirs.box H9.out.1.lists (by omega) rfl (by have := H9.out.2.2; have := HR.out.2.2.2; omega)).mono ?_
           rintro e w10 ⟨rfl, hw10⟩
           subst hw10))
      go_roundw
      case rel => exact ⟨i + 1, Lv', us', s', by omega, by go_num, by have := H9.out.2.2; have := HR.out.2.2.2; omega, H9.out.1, HR.out.2.1.trans H9.out.2.1⟩
      case measure => simp [intOf]; omega
    · have hi1 : ¬ (i : Int) < n := by omega
      obtain ⟨g, c1, g', c2, hs⟩ := hW.dirs.split
      have hBs := hB.size
      rw [hs] at hW
      have HR := Lib.hid (And.intro hW hB)
      clear hW hB
      go_wp2_with (first
        | (go_at_call 8
           refine (whole_any w.heap.size wb i s.n Lv s.ds s.rs s.vs s.ls g c1 g' c2 _ HR.out.1.dirs (by omega)).mono ?_
           rintro e w9 ⟨rfl, hb9⟩
           have hs9 := hb9.size
           have H9 := Lib.hid hb9
           clear hb9)
        | (go_at_call 9
           refine (H.out.2.2.2 _ (HR.out.2.trans (H9.out.mono hBs))).mono ?_
           rintro e w10 ⟨rfl, hb10⟩
           have H10 := Lib.hid hb10
           clear hb10))
      go_ret
      exact ⟨rfl, (HR.out.2.trans (H9.out.mono hBs)).trans (H10.out.mono (by omega))⟩
end Go.Proofs.Ytglmhpmjebjcgaa
