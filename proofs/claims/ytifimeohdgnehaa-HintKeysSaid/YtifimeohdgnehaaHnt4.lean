import Derived.Test.YtifimeohdgnehaaHnt3
namespace Go.Proofs.Ytifimeohdgnehaa
open Go.RowKit Go.Maps

theorem REn.grown {seg size : Int} {sl : Value} {e : HE} {h eb : Nat} {w W W' : World} {m : Nat} (r : REn seg size sl e h eb w W) (hg : W.grownBy W' (some m)) (hm : w.heap.size ≤ m) (hB : w.heap.size ≤ W.heap.size) (h1 : h ≠ m) (h2 : eb ≠ m) : REn seg size sl e h eb w W' :=
  ⟨hg.cell r.h0 (by simpa using h1), hg.cell r.h1 (by simpa using h1), hg.cell r.h2 (by simpa using h1), hg.cell r.e0 (by simpa using h2), hg.cell r.e1 (by simpa using h2), hg.cell r.e4 (by simpa using h2), hg.cell r.e5 (by simpa using h2),
    r.below.grown hg hB (fun j hj => by cases hj; exact hm), Nat.lt_of_lt_of_le r.size.1 hg.size, Nat.lt_of_lt_of_le r.size.2 hg.size⟩

set_option maxRecDepth 100000 in
set_option maxHeartbeats 4000000 in
theorem octRight (seg size : Int) (A : Option Addr) (c : Nat) (l : List HE) (w : World) (hA : Rd w w.heap.size A (l.flatMap six)) (hmx : l.length ≤ 140737488355328) :
    Calls Try.prog 19 #[hV seg size (.slice A l.length c)] w fun e w' => RAns seg size l e ∧ Below w.heap.size w w' := by
  have hmm := @run_makeMap Try.prog
  have hb0 : Below w.heap.size w (w.alloc (.cells #[.int .i64 seg, .int .i64 size, .slice A l.length c] 24)) := (Below.refl _ _).alloc (Nat.le_refl _) _
  unfold hV
  by_cases hg : ¬ (0 ≤ seg ∧ seg < 1073741824 ∧ 38 ≤ size ∧ size ≤ 65536)
  · have Hbad := Lib.hid (show ¬ HintR seg size l from fun x => hg ⟨x.1, x.2.1, x.2.2.1, x.2.2.2.1⟩)
    have Hg := Lib.hid hg
    clear hg
    go_enter Try.func19, Try.ntmps19
    go_wp2
    all_goals first
      | (go_ret; exact ⟨.no Hbad.out rfl, hb0⟩)
      | (exfalso; apply Hg.out; omega)
  obtain ⟨g1, g2, g3, g4⟩ := Classical.not_not.1 hg
  clear hg
  go_enter Try.func19, Try.ntmps19
  go_wp2
  go_loopw [3, 4, 30] (fun o en i wr => ∃ k : Nat, k ≤ l.length ∧ i = .int .i64 k ∧ o = .int .i64 (offAt l k) ∧ en = .int .i64 (endAt l k) ∧ 0 ≤ endAt l k ∧ (∀ j, j < k → EntR (offAt l j) (endAt l j) size (nth l j)) ∧
      SSet Try.prog 9 3 wr (w.heap.size + 1) k (keysTo l k) ∧ Below w.heap.size w wr ∧
      wr.cell? ⟨w.heap.size, 0, none⟩ = some (.int .i64 seg) ∧ wr.cell? ⟨w.heap.size, 1, none⟩ = some (.int .i64 size) ∧ wr.cell? ⟨w.heap.size, 2, none⟩ = some (.slice A l.length c) ∧ w.heap.size + 1 < wr.heap.size)
    (fun _ _ i _ => l.length - (intOf i).toNat)
  case atStart =>
    refine ⟨0, Nat.zero_le _, rfl, rfl, rfl, by simp [endAt], by omega, ?_, hb0.alloc (by simp) _, by go_simp, by go_simp, by go_simp, by simp⟩
    have := SSet.made (P := Try.prog) (K := 9) (E := 3) (w.alloc (.cells #[.int .i64 seg, .int .i64 size, .slice A l.length c] 24))
    simpa [keysTo] using this
  case round =>
    obtain ⟨k, hk, rfl, rfl, rfl, hen, hE, hS, hb, hc0, hc1, hc2, hsz⟩ := hrel
    have HE' := Lib.hid hE
    clear hE
    by_cases hlt : k < l.length
    · have hrd := Lib.hid (hA.below hb)
      obtain ⟨ad, rfl, hadb, p0, p1, p2, p3, p4, p5⟩ := hrd.out.six_ hlt
      have Hen := Lib.hid (show offAt l (k + 1) = (nth l k).off ∧ endAt l (k + 1) = (nth l k).pos + (nth l k).len from ⟨rfl, rfl⟩)
      have Hks := Lib.hid (show keysTo l (k + 1) = (nth l k).key.data.toList :: keysTo l k from rfl)
      rw [← nth_eq hlt] at p0 p1 p2 p3 p4 p5
      generalize hpe : nth l k = p at p0 p1 p2 p3 p4 p5 Hen Hks
      have Hpe := Lib.hid hpe
      clear hpe
      generalize hoe : offAt l k = oo
      have Hoe := Lib.hid hoe
      generalize hee : endAt l k = ee at hen
      have Hee := Lib.hid hee
      clear hoe hee
      obtain ⟨key, eo, et, ed, ep, el⟩ := p
      simp only at p0 p1 p2 p3 p4 p5
      have hd1 : ∀ o, (wr.alloc o).cell? ⟨w.heap.size, 1, none⟩ = some (.int .i64 size) := fun o => (World.cell?_alloc_lt _ _ _ (by simp; omega)).trans hc1
      have HR : Hid (REn seg size (.slice (some ad) l.length c) ⟨key, eo, et, ed, ep, el⟩ w.heap.size wr.heap.size w (wr.alloc (.cells #[.string key, .int .i64 eo, .int .i64 et, .bool ed, .int .i64 ep, .int .i64 el] 33))) :=
        ⟨(World.cell?_alloc_lt _ _ _ (by simp; omega)).trans hc0, hd1 _, (World.cell?_alloc_lt _ _ _ (by simp; omega)).trans hc2, by go_simp, by go_simp, by go_simp, by go_simp, hb.alloc (by omega) _, by simp, by simp; omega⟩
      clear hc0 hc1 hc2
      by_cases hent : EntR oo ee size ⟨key, eo, et, ed, ep, el⟩
      · have Hent := Lib.hid hent
        obtain ⟨t1, t2, t3, t4, t5, t6, t7, t8, t9, t10⟩ := hent
        simp only at t1 t2 t3 t4 t5 t6 t7 t8 t9 t10
        have hk0 : ¬ key.toList = [] := by
          intro e
          rw [ByteArray.toList_eq] at e
          have : key.size = 0 := by rw [← ByteArray.size_data, ← Array.length_toList, e]; rfl
          omega
        have hk1 : key.toList.isEmpty = false := by simpa using hk0
        have hks : key.size ≤ maxLen := by unfold maxLen; omega
        have hkm : k < maxLen := by unfold maxLen; omega
        have HS : Hid (∀ o, SSet Try.prog 9 3 (wr.alloc o) (w.heap.size + 1) k (keysTo l k)) := fun o => hS.kept (World.grownBy_alloc wr o none) (by simp)
        have hq : ep ≤ size - 17 - el := by omega
        clear hS
        go_wp2_with (at_mapUpdate; refine wpList_setStore _ rfl (.tmp 89) (.tmp 91) (.const (.int .i64 1)) _ rfl Try.underlying9 Try.underlying3 Try.underlying71 _ k _ rfl (HS.out _) hkm _ _ rfl rfl hks (by decide) ?_; intro w1 hset1 hg1)
        have hr1 := HR.out.grown hg1 (by omega) (by simp; omega) (by omega) (by omega)
        have HR1 := Lib.hid hr1
        have f1 := hr1.e1; have f4 := hr1.e4; have f5 := hr1.e5
        (try simp only at f1 f4 f5)
        clear hr1 hd1 hg1
        go_quiet (fail)
        go_wp2
        go_roundw
        case rel =>
          refine ⟨k + 1, by omega, by go_num, by rw [Hen.out.1], by rw [Hen.out.2], by rw [Hen.out.2]; omega,
                fun j hj => (by
                  by_cases hjm : j = k
                  · subst hjm; rw [Hoe.out, Hee.out, Hpe.out]; exact Hent.out
                  · exact HE'.out j (by omega)), ?_, (HR1.out.drewN _).below, (HR1.out.drewN _).h0, (HR1.out.drewN _).h1, (HR1.out.drewN _).h2, ?_⟩
          · rw [Hks.out]; exact hset1
          · have := (HR1.out.drewN nq).size; simp at this ⊢; omega
        case measure => simp [intOf]; omega
      · have Hent := Lib.hid hent
        have Hbad := Lib.hid (show ¬ HintR seg size l from fun x => hent (by have := x.2.2.2.2.1 k hlt; rw [Hoe.out, Hee.out, Hpe.out] at this; exact this))
        clear hent
        go_wp2
        all_goals first
          | (go_ret; exact ⟨.no Hbad.out rfl, hb.alloc (by omega) _⟩)
          | (exfalso
             apply Hent.out
             have hne : ∀ h : ¬ key.toList = [], 1 ≤ key.size := fun h => by
               rcases Nat.lt_or_ge 0 key.size with h0 | h0
               · exact h0
               · exfalso
                 apply h
                 rw [ByteArray.toList_eq]
                 exact List.eq_nil_of_length_eq_zero (by rw [Array.length_toList, ByteArray.size_data]; omega)
             have hn1 := hne (by assumption)
             refine ⟨hn1, ?_, ?_, ?_, ?_, ?_, ?_, ?_, ?_, ?_⟩ <;> (try simp only) <;> omega)
    · have hln := hS.len (T := 71) Try.underlying71
      have HN := Lib.hid ((dcount_eq (keysTo l k)).trans (keysTo_nodup l k))
      have Hkl := Lib.hid (keysTo_len l k)
      have hkk : k = l.length := by omega
      go_wp2
      go_ret
      subst hkk
      rw [Hkl.out] at HN
      by_cases hd : dcount (keysTo l l.length) = l.length
      · refine ⟨.yes ⟨g1, g2, g3, g4, fun i hi => HE'.out i hi, HN.out.1 hd⟩ ?_, hb⟩
        show Ending.returned (.bool (((dcount (keysTo l l.length) : Nat) : Int) == ((l.length : Nat) : Int))) = _
        rw [hd]; simp
      · refine ⟨.no (fun x => hd (HN.out.2 x.2.2.2.2.2)) ?_, hb⟩
        show Ending.returned (.bool (((dcount (keysTo l l.length) : Nat) : Int) == ((l.length : Nat) : Int))) = _
        congr 2
        simp
        omega
end Go.Proofs.Ytifimeohdgnehaa
