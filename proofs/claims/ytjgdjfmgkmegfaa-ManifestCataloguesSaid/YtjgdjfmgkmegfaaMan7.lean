import Derived.Test.YtjgdjfmgkmegfaaMan6
namespace Go.Proofs.Ytjgdjfmgkmegfaa
open Go.RowKit Go.Maps

theorem quiet_same {P : Program} {f : FuncId} {args : Array Value} {w : World} {n : Nat} {v : Value}
    (h : Calls P f args (w.drewN n) fun e w' => e = .returned v ∧ w.drewN n = w') : Calls P f args (w.drewN n) fun e w'' => e = .returned v ∧ ∃ m, w'' = w.drewN m :=
  h.mono fun _ _ ⟨he, hm⟩ => ⟨he, n, hm.symm⟩

/-- What a round of the reference's CheckCatalogue knows of the world. -/
structure CatV (nid : Int) (sl : Value) (p : T4) (B b e : Nat) (w0 W : World) : Prop where
  e0 : W.cell? ⟨e, 0, none⟩ = some (.int .i64 p.id)
  e1 : W.cell? ⟨e, 1, none⟩ = some (.string p.name)
  e2 : W.cell? ⟨e, 2, none⟩ = some (.int .i64 p.limit)
  e3 : W.cell? ⟨e, 3, none⟩ = some (.int .i64 p.hor)
  b0 : W.cell? ⟨b, 0, none⟩ = some (.int .i64 nid)
  b1 : W.cell? ⟨b, 1, none⟩ = some sl
  below : Below B w0 W
  size : e < W.heap.size ∧ b < W.heap.size
theorem CatV.drewN {nid : Int} {sl : Value} {p : T4} {B b e : Nat} {w0 W : World} (h : CatV nid sl p B b e w0 W) (m : Nat) : CatV nid sl p B b e w0 (W.drewN m) :=
  ⟨h.e0, h.e1, h.e2, h.e3, h.b0, h.b1, below_drewN h.below m, h.size⟩
theorem leq_cmp (a b : ByteArray) : (Op.bytesLess a.toList b.toList || a.toList == b.toList) = decide (0 ≤ cmpB b.data.toList a.data.toList) := by
  rw [← ByteArray.toList_eq, ← ByteArray.toList_eq]
  have h1 := cmpB_less a.toList b.toList
  have h2 := cmpB_swap a.toList b.toList
  have h3 := cmpB_range a.toList b.toList
  by_cases he : a.toList = b.toList
  · simp [he, cmpB_self]
  · have hne : cmpB a.toList b.toList ≠ 0 := fun h => he (cmpB_eq h)
    have he' : (a.toList == b.toList) = false := by simp [he]
    rw [he', Bool.or_false]
    cases hl : Op.bytesLess a.toList b.toList with
    | true =>
      have := h1.2 hl
      exact (decide_eq_true (by omega)).symm
    | false =>
      have : ¬ cmpB a.toList b.toList = -1 := fun h => by rw [h1.1 h] at hl; cases hl
      exact (decide_eq_false (by omega)).symm

set_option maxRecDepth 100000 in
set_option maxHeartbeats 4000000 in
theorem refCheckCat_any (nid : Int) (A : Option Addr) (c : Nat) (l : List T4) (w : World) (hA : Rd w w.heap.size A (l.flatMap quad)) :
    Calls Try.prog 16 #[.agg #[.int .i64 nid, .slice A l.length c]] w fun e w' =>
      e = .returned (.int .i64 (catE nid l)) ∧ Below w.heap.size w w' := by
  have hb0 : Below w.heap.size w (w.alloc (.cells #[.int .i64 nid, .slice A l.length c] 28)) := (Below.refl _ _).alloc (Nat.le_refl _) _
  by_cases h1 : ¬ (1 ≤ nid ∧ nid ≤ 1073741824 ∧ l.length ≤ 16)
  · have Hbad := Lib.hid (show catR nid l = false by
      by_cases a : 1 ≤ nid <;> by_cases b : nid ≤ 1073741824 <;> by_cases d : l.length ≤ 16 <;> simp [catR, a, b, d] <;> exact absurd ⟨a, b, d⟩ h1)
    have H1 := Lib.hid h1
    clear h1
    go_enter Try.func16, Try.ntmps16
    go_wp2
    all_goals first
      | (go_ret; exact ⟨ret_int (catE_bad Hbad.out), hb0⟩)
      | (exfalso; apply H1.out; omega)
  have h1' : 1 ≤ nid ∧ nid ≤ 1073741824 ∧ l.length ≤ 16 := Classical.not_not.1 h1
  clear h1
  obtain ⟨g1, g2, g3⟩ := h1'
  have Hfin : Hid (∀ x, catGo nid [] none l = x → catR nid l = x) := fun x hx => by rw [catR, hx]; simp [g1, g2, g3]
  go_enter Try.func16, Try.ntmps16
  go_wp2
  go_loopw [3] (fun i wr => ∃ (k : Nat) (prev : Option ByteArray), k ≤ l.length ∧ i = .int .i64 k ∧ Below w.heap.size w wr ∧
      wr.cell? ⟨w.heap.size, 0, none⟩ = some (.int .i64 nid) ∧ wr.cell? ⟨w.heap.size, 1, none⟩ = some (.slice A l.length c) ∧ w.heap.size < wr.heap.size ∧
      catGo nid [] none l = catGo nid ((l.take k).map T4.id) prev (l.drop k) ∧ (k = 0 → prev = none) ∧ ∀ t, 0 < k → l[k - 1]? = some t → prev = some t.name)
    (fun i _ => l.length - (intOf i).toNat)
  case atStart =>
    exact ⟨0, none, Nat.zero_le _, rfl, hb0, by go_simp, by go_simp, by simp, rfl, fun _ => rfl, by omega⟩
  case round =>
    obtain ⟨k, prev, hk, rfl, hb, hc0, hc1, hsz, hgo, hpz, hpp⟩ := hrel
    have Hgo := Lib.hid hgo
    have Hpz := Lib.hid hpz
    have Hpp := Lib.hid hpp
    clear hgo hpz hpp
    by_cases hlt : k < l.length
    · have hrd := Lib.hid (hA.below hb)
      obtain ⟨ad, rfl, hadb, hp1, hp2, hp3, hp4⟩ := hrd.out.quad_ hlt
      generalize hpe : l[k] = p at hp1 hp2 hp3 hp4
      have Hpe := Lib.hid hpe
      clear hpe
      have Htake := Lib.hid (show (l.take (k + 1)).map T4.id = (l.take k).map T4.id ++ [p.id] by rw [take_snoc l k hlt, Hpe.out]; simp)
      have hW : CatV nid (.slice (some ad) l.length c) p w.heap.size w.heap.size wr.heap.size w (wr.alloc (.cells #[.int .i64 p.id, .string p.name, .int .i64 p.limit, .int .i64 p.hor] 60)) :=
        ⟨by go_simp, by go_simp, by go_simp, by go_simp, (World.cell?_alloc_lt _ _ _ (by simp; omega)).trans hc0, (World.cell?_alloc_lt _ _ _ (by simp; omega)).trans hc1, hb.alloc (by omega) _, by simp, by simp; omega⟩
      have HW := Lib.hid hW
      clear hW
      have Hbad : Hid (¬ oktP nid ((l.take k).map T4.id) prev p → (71 : Int) = catE nid l) := fun h => catE_bad (Hfin.out _ (Hgo.out.trans (catGo_bad hlt (by rw [Hpe.out]; exact h))))
      by_cases hn : nameE p.name = 0
      · have hnn : (nameE p.name != 0) = false := by simp [hn]
        have Hn := Lib.hid hn
        clear hn
        by_cases hk0 : 0 < k
        · obtain ⟨m, rfl⟩ : ∃ m, k = m + 1 := ⟨k - 1, by omega⟩
          have hk00 : decide ((0 : Int) < (m : Int) + 1) = true := decide_eq_true (by omega)
          have hwr : IntKind.i64.wrap (m : Int) = m := Go.IntWalk.i64_in _ (by omega)
          have hm0 : (0 : Int) ≤ m := by omega
          have hm1 : (m : Int) < l.length := by omega
          obtain ⟨ad', ee, _, z1, z2, z3, z4⟩ := hrd.out.quad_ (i := m) (by omega)
          cases ee
          have Hq := Lib.hid (Hpp.out l[m] hk0 (by simp))
          generalize l[m] = q at z1 z2 z3 z4 Hq
          clear z1 z3 z4
          have zz : ∀ o, (wr.alloc o).cell? ⟨(ad.add (m * 4)).block, (ad.add (m * 4)).off + 1, none⟩ = some (.string q.name) := fun o => ((World.cell?_alloc_lt _ _ _ (by rw [add_block]; omega)).trans z2)
          clear z2
          have hlq := leq_cmp p.name q.name
          by_cases hcm : cmpB q.name.data.toList p.name.data.toList < 0
          · have hlq2 : (Op.bytesLess p.name.toList q.name.toList || p.name.toList == q.name.toList) = false := by rw [hlq]; exact decide_eq_false (by omega)
            have Hcm := Lib.hid hcm
            clear hlq hcm
            have Hok : Hid (oktP nid ((l.take (m + 1)).map T4.id) prev p ↔ p.id ∉ (l.take (m + 1)).map T4.id ∧ ((1 ≤ p.id ∧ p.id < nid) ∧ (256 ≤ p.limit ∧ p.limit ≤ 65536) ∧ 0 ≤ p.hor ∧ p.hor ≤ 1099511627776)) := by
              have hp := Hq.out
              have hn0 := Hn.out
              constructor
              · rintro ⟨_, _, c, x, d⟩
                exact ⟨x, c, d⟩
              · rintro ⟨x, c, d⟩
                exact ⟨(fun x hx => by rw [hp] at hx; cases hx; exact Hcm.out), hn0, c, x, d⟩
            by_cases hg : (1 ≤ p.id ∧ p.id < nid) ∧ (256 ≤ p.limit ∧ p.limit ≤ 65536) ∧ 0 ≤ p.hor ∧ p.hor ≤ 1099511627776
            · have Hg := Lib.hid hg
              obtain ⟨⟨x1, x2⟩, ⟨x3, x4⟩, x5, x6⟩ := hg
              go_wp2
              go_quiet ((go_at_call 18; exact quiet_same (refCheckName_any _ _)))
              generalize hwo : (wr.alloc (.cells #[.int .i64 p.id, .string p.name, .int .i64 p.limit, .int .i64 p.hor] 60)).drewN nq = wo
              have HWo : Hid (CatV nid (.slice (some ad) l.length c) p w.heap.size w.heap.size wr.heap.size w wo) := by rw [← hwo]; exact HW.out.drewN nq
              clear hwo hp1 hp2 hp3 hp4 hc0 hc1
              have r0 := HWo.out.e0; have r1 := HWo.out.e1; have r2 := HWo.out.e2; have r3 := HWo.out.e3; have r4 := HWo.out.b0; have r5 := HWo.out.b1
              go_wp2_with (go_at_call 42; refine (refWithin_any _ _ _ _).mono ?_; rintro e w' ⟨rfl, rfl⟩)
              have hrd2 := Lib.hid (hA.below HWo.out.below)
              go_loopw [5] (fun i w2 => ∃ (j n : Nat), j ≤ (m + 1) ∧ i = .int .i64 j ∧ w2 = wo.drewN n ∧ p.id ∉ (l.take j).map T4.id) (fun i _ => (m + 1) - (intOf i).toNat)
              case atStart => exact ⟨0, 0, Nat.zero_le _, rfl, rfl, by simp⟩
              case round =>
                obtain ⟨j, n, hj, rfl, rfl, hnot⟩ := hrel
                have Hnot := Lib.hid hnot
                clear hnot
                by_cases hjk : j < (m + 1)
                · have hjl : j < l.length := by omega
                  have hj0 : (0 : Int) ≤ j := by omega
                  have hj1 : (j : Int) < l.length := by omega
                  obtain ⟨ad2, ee2, _, y1, y2, y3, y4⟩ := hrd2.out.quad_ hjl
                  cases ee2
                  clear y2 y3 y4
                  by_cases heq : l[j].id = p.id
                  · have Hbd := Lib.hid (Hbad.out fun h => (Hok.out.1 h).1 (by
                      rw [← heq]; exact List.mem_map.2 ⟨l[j], List.mem_take_iff_getElem.2 ⟨j, by omega, rfl⟩, rfl⟩))
                    have heq' : (l[j].id == p.id) = true := by simp [heq]
                    clear heq
                    go_wp2
                    go_quiet (fail)
                    go_wp2
                    go_ret
                    exact ⟨ret_int Hbd.out, below_drewN (below_drewN HWo.out.below _) _⟩
                  · have hn2 := Lib.hid (show p.id ∉ (l.take (j + 1)).map T4.id by
                      rw [take_snoc l j hjl, List.map_append]
                      intro h
                      rcases List.mem_append.1 h with h | h
                      · exact Hnot.out h
                      · simp at h; exact heq h.symm)
                    have heq' : (l[j].id == p.id) = false := by simp [heq]
                    clear heq
                    go_wp2
                    go_quiet (fail)
                    go_wp2
                    go_roundw
                    case rel => exact ⟨j + 1, _, by omega, by go_num, rfl, hn2.out⟩
                    case measure => simp [intOf]; omega
                · have hje : Hid (j = (m + 1)) := by show j = (m + 1); omega
                  have hjk' : ¬ (j : Int) < (m : Int) + 1 := by omega
                  go_wp2
                  go_roundw
                  case rel =>
                    have hnk : p.id ∉ (l.take (m + 1)).map T4.id := by have := Hnot.out; rw [hje.out] at this; exact this
                    refine ⟨(m + 1) + 1, some p.name, by omega, by go_num, below_drewN HWo.out.below _, r4, r5, by have := HWo.out.size; simp; omega, ?_, by omega, ?_⟩
                    · rw [Hgo.out, catGo_good hlt (by rw [Hpe.out]; exact Hok.out.2 ⟨hnk, Hg.out⟩), Htake.out, Hpe.out]
                    · intro t _ ht
                      rw [show (m + 1) + 1 - 1 = (m + 1) from rfl, List.getElem?_eq_getElem hlt, Hpe.out] at ht
                      cases ht; rfl
                  case measure => simp [intOf]; omega
            · have Hbd := Lib.hid (Hbad.out fun h => hg (Hok.out.1 h).2)
              have Hg := Lib.hid hg
              clear hg Hbad
              go_wp2
              go_quiet ((go_at_call 18; exact quiet_same (refCheckName_any _ _)))
              go_wp2_with (go_at_call 42; refine (refWithin_any _ _ _ _).mono ?_; rintro e w' ⟨rfl, rfl⟩)
              all_goals first
                | (go_ret; exact ⟨ret_int Hbd.out, below_drewN HW.out.below _⟩)
                | (exfalso; apply Hg.out; simp at *; omega)
          · have hlq2 : (Op.bytesLess p.name.toList q.name.toList || p.name.toList == q.name.toList) = true := by rw [hlq]; exact decide_eq_true (by omega)
            have Hbd := Lib.hid (Hbad.out fun h => hcm (h.1 _ Hq.out))
            clear hlq hcm Hbad
            go_wp2
            go_quiet ((go_at_call 18; exact quiet_same (refCheckName_any _ _)))
            go_wp2
            go_ret
            exact ⟨ret_int Hbd.out, below_drewN HW.out.below _⟩
        · have hk00 : decide ((0 : Int) < (k : Int)) = false := by simp at hk0 ⊢; omega
          have Hok : Hid (oktP nid ((l.take k).map T4.id) prev p ↔ p.id ∉ (l.take k).map T4.id ∧ ((1 ≤ p.id ∧ p.id < nid) ∧ (256 ≤ p.limit ∧ p.limit ≤ 65536) ∧ 0 ≤ p.hor ∧ p.hor ≤ 1099511627776)) := by
            have hp := Hpz.out (by omega)
            have hn0 := Hn.out
            constructor
            · rintro ⟨_, _, c, x, d⟩
              exact ⟨x, c, d⟩
            · rintro ⟨x, c, d⟩
              exact ⟨(fun x hx => by rw [hp] at hx; cases hx), hn0, c, x, d⟩
          by_cases hg : (1 ≤ p.id ∧ p.id < nid) ∧ (256 ≤ p.limit ∧ p.limit ≤ 65536) ∧ 0 ≤ p.hor ∧ p.hor ≤ 1099511627776
          · have Hg := Lib.hid hg
            obtain ⟨⟨x1, x2⟩, ⟨x3, x4⟩, x5, x6⟩ := hg
            go_wp2
            go_quiet ((go_at_call 18; exact quiet_same (refCheckName_any _ _)))
            generalize hwo : (wr.alloc (.cells #[.int .i64 p.id, .string p.name, .int .i64 p.limit, .int .i64 p.hor] 60)).drewN nq = wo
            have HWo : Hid (CatV nid (.slice (some ad) l.length c) p w.heap.size w.heap.size wr.heap.size w wo) := by rw [← hwo]; exact HW.out.drewN nq
            clear hwo hp1 hp2 hp3 hp4 hc0 hc1
            have r0 := HWo.out.e0; have r1 := HWo.out.e1; have r2 := HWo.out.e2; have r3 := HWo.out.e3; have r4 := HWo.out.b0; have r5 := HWo.out.b1
            go_wp2_with (go_at_call 42; refine (refWithin_any _ _ _ _).mono ?_; rintro e w' ⟨rfl, rfl⟩)
            have hrd2 := Lib.hid (hA.below HWo.out.below)
            go_loopw [5] (fun i w2 => ∃ (j n : Nat), j ≤ k ∧ i = .int .i64 j ∧ w2 = wo.drewN n ∧ p.id ∉ (l.take j).map T4.id) (fun i _ => k - (intOf i).toNat)
            case atStart => exact ⟨0, 0, Nat.zero_le _, rfl, rfl, by simp⟩
            case round =>
              obtain ⟨j, n, hj, rfl, rfl, hnot⟩ := hrel
              have Hnot := Lib.hid hnot
              clear hnot
              by_cases hjk : j < k
              · have hjl : j < l.length := by omega
                have hj0 : (0 : Int) ≤ j := by omega
                have hj1 : (j : Int) < l.length := by omega
                obtain ⟨ad2, ee2, _, y1, y2, y3, y4⟩ := hrd2.out.quad_ hjl
                cases ee2
                clear y2 y3 y4
                by_cases heq : l[j].id = p.id
                · have Hbd := Lib.hid (Hbad.out fun h => (Hok.out.1 h).1 (by
                    rw [← heq]; exact List.mem_map.2 ⟨l[j], List.mem_take_iff_getElem.2 ⟨j, by omega, rfl⟩, rfl⟩))
                  have heq' : (l[j].id == p.id) = true := by simp [heq]
                  clear heq
                  go_wp2
                  go_quiet (fail)
                  go_wp2
                  go_ret
                  exact ⟨ret_int Hbd.out, below_drewN (below_drewN HWo.out.below _) _⟩
                · have hn2 := Lib.hid (show p.id ∉ (l.take (j + 1)).map T4.id by
                    rw [take_snoc l j hjl, List.map_append]
                    intro h
                    rcases List.mem_append.1 h with h | h
                    · exact Hnot.out h
                    · simp at h; exact heq h.symm)
                  have heq' : (l[j].id == p.id) = false := by simp [heq]
                  clear heq
                  go_wp2
                  go_quiet (fail)
                  go_wp2
                  go_roundw
                  case rel => exact ⟨j + 1, _, by omega, by go_num, rfl, hn2.out⟩
                  case measure => simp [intOf]; omega
              · have hje : Hid (j = k) := by show j = k; omega
                have hjk' : ¬ (j : Int) < (k : Int) := by omega
                go_wp2
                go_roundw
                case rel =>
                  have hnk : p.id ∉ (l.take k).map T4.id := by have := Hnot.out; rw [hje.out] at this; exact this
                  refine ⟨k + 1, some p.name, by omega, by go_num, below_drewN HWo.out.below _, r4, r5, by have := HWo.out.size; simp; omega, ?_, by omega, ?_⟩
                  · rw [Hgo.out, catGo_good hlt (by rw [Hpe.out]; exact Hok.out.2 ⟨hnk, Hg.out⟩), Htake.out, Hpe.out]
                  · intro t _ ht
                    rw [show k + 1 - 1 = k from rfl, List.getElem?_eq_getElem hlt, Hpe.out] at ht
                    cases ht; rfl
                case measure => simp [intOf]; omega
          · have Hbd := Lib.hid (Hbad.out fun h => hg (Hok.out.1 h).2)
            have Hg := Lib.hid hg
            clear hg Hbad
            go_wp2
            go_quiet ((go_at_call 18; exact quiet_same (refCheckName_any _ _)))
            go_wp2_with (go_at_call 42; refine (refWithin_any _ _ _ _).mono ?_; rintro e w' ⟨rfl, rfl⟩)
            all_goals first
              | (go_ret; exact ⟨ret_int Hbd.out, below_drewN HW.out.below _⟩)
              | (exfalso; apply Hg.out; simp at *; omega)
      · have hnn : (nameE p.name != 0) = true := by simp [hn]
        have Hbd := Lib.hid (Hbad.out fun h => hn h.2.1)
        clear hn Hbad
        go_wp2
        go_quiet ((go_at_call 18; exact quiet_same (refCheckName_any _ _)))
        go_wp2
        go_ret
        exact ⟨ret_int Hbd.out, below_drewN HW.out.below _⟩
    · go_wp2
      go_ret
      refine ⟨ret_int (catE_good (Hfin.out _ ?_)), hb⟩
      rw [Hgo.out, List.drop_of_length_le (by omega)]; rfl
end Go.Proofs.Ytjgdjfmgkmegfaa
