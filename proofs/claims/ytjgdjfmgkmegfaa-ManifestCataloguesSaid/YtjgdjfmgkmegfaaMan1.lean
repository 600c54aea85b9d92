import Derived.Test.YtjgdjfmgkmegfaaRows
import Derived.Test.YtjgdjfmgkmegfaaLib
namespace Go.Proofs.Ytjgdjfmgkmegfaa
open Go.RowKit Go.Maps

theorem within_any (v lo hi : Int) (w : World) :
    Calls Try.prog 38 #[.int .i64 v, .int .i64 lo, .int .i64 hi] w fun e w' => e = .returned (.bool (decide (lo ≤ v) && decide (v ≤ hi))) ∧ w = w' := by
  go_enter Try.func38, Try.ntmps38
  go_wp2
  all_goals go_ret
  all_goals (refine ⟨ret_bool ?_, rfl⟩; simp [*])
  all_goals omega

def segsR (ns : Int) (l : List Int) : Bool := decide (1 ≤ l.length) && decide (l.length ≤ 64) && (l.all fun s => decide (1 ≤ s) && decide (s < ns)) && decide l.Nodup

theorem zero_int (w : World) : (zeroValue 3).run Try.prog w = .ok (.int .i64 0) w := by kernel_rfl

def cnt (l : List Int) (x : Int) : Int := if x ∈ l then 1 else 0
theorem cnt_snoc (l : List Int) (s : Int) : (fun y => if y = s then (1 : Int) else cnt l y) = cnt (l ++ [s]) := by
  funext y
  unfold cnt
  by_cases hy : y = s
  · simp [hy]
  · simp [hy]
theorem segsR_bad {ns : Int} {l : List Int} {k : Nat} (hk : k < l.length) (h : l[k] < 1 ∨ ns ≤ l[k] ∨ l[k] ∈ l.take k) : segsR ns l = false := by
  unfold segsR
  rcases h with h | h | h
  · have : (l.all fun s => decide (1 ≤ s) && decide (s < ns)) = false := by
      rw [List.all_eq_false]; exact ⟨l[k], List.getElem_mem hk, by simp; omega⟩
    simp [this]
  · have : (l.all fun s => decide (1 ≤ s) && decide (s < ns)) = false := by
      rw [List.all_eq_false]; exact ⟨l[k], List.getElem_mem hk, by simp; omega⟩
    simp [this]
  · have : ¬ l.Nodup := by
      intro hn
      rw [← List.take_append_drop k l, List.drop_eq_getElem_cons hk, List.nodup_append] at hn
      exact hn.2.2 _ h _ (List.mem_cons_self ..) rfl
    simp [this]
theorem segsR_good {ns : Int} {l : List Int} (h0 : ¬ l.length < 1) (h1 : ¬ 64 < l.length) (h : ∀ s ∈ l, 1 ≤ s ∧ s < ns) (hn : l.Nodup) : segsR ns l = true := by
  unfold segsR
  simp only [Bool.and_eq_true, decide_eq_true_eq, List.all_eq_true]
  exact ⟨⟨⟨by omega, by omega⟩, h⟩, hn⟩
theorem nodup_snoc {l : List Int} {s : Int} (h : l.Nodup) (hs : s ∉ l) : (l ++ [s]).Nodup := by
  rw [List.nodup_append]
  exact ⟨h, by simp, fun a ha b hb => by simp at hb; subst hb; rintro rfl; exact hs ha⟩
theorem take_snoc {α : Type} (l : List α) (k : Nat) (h : k < l.length) : l.take (k + 1) = l.take k ++ [l[k]] := by
  rw [List.take_succ_eq_append_getElem h]

set_option maxRecDepth 100000 in
set_option maxHeartbeats 1000000 in
theorem segsRight_any (id ns nx mk cl : Int) (A : Option Addr) (c : Nat) (segs : List Int) (pv : Value) (w : World) (hA : Rd w w.heap.size A (segs.map (.int .i64))) (hw : ∀ s ∈ segs, (Lit.int .i64 s).wf = true) :
    Calls Try.prog 39 #[.agg #[.int .i64 id, .int .i64 ns, .int .i64 nx, .int .i64 mk, .int .i64 cl, .slice A segs.length c, pv]] w fun e w' =>
      e = .returned (.bool (segsR ns segs)) ∧ Below w.heap.size w w' := by
  have hmm := @run_makeMap Try.prog
  by_cases h0 : segs.length < 1
  · go_enter Try.func39, Try.ntmps39
    go_wp2
    go_ret
    exact ⟨ret_bool (by unfold segsR; simp; omega), (Below.refl _ _).alloc (Nat.le_refl _) _⟩
  by_cases h1 : 64 < segs.length
  · go_enter Try.func39, Try.ntmps39
    go_wp2
    go_ret
    exact ⟨ret_bool (by unfold segsR; simp; omega), (Below.refl _ _).alloc (Nat.le_refl _) _⟩
  go_enter Try.func39, Try.ntmps39
  go_wp2
  go_loopw [20] (fun i wr => ∃ k : Nat, k ≤ segs.length ∧ i = .int .i64 k ∧ IMap Try.prog 3 3 wr (w.heap.size + 1) k (cnt (segs.take k)) ∧ Below w.heap.size w wr ∧
      wr.cell? ⟨w.heap.size, 1, none⟩ = some (.int .i64 ns) ∧ (segs.take k).Nodup ∧ ∀ s ∈ segs.take k, 1 ≤ s ∧ s < ns)
    (fun i _ => segs.length - (intOf i).toNat)
  case atStart =>
    refine ⟨0, Nat.zero_le _, rfl, ?_, ((Below.refl _ _).alloc (Nat.le_refl _) _).alloc (by simp) _, ?_, by simp, by simp⟩
    · have := IMap.made (P := Try.prog) (K := 3) (E := 3) (w.alloc (.cells #[.int .i64 id, .int .i64 ns, .int .i64 nx, .int .i64 mk, .int .i64 cl, .slice A segs.length c, pv] 25))
      have e : cnt (segs.take 0) = fun _ => 0 := by funext y; simp [cnt]
      rw [e]
      simpa using this
    · go_simp
  case round =>
    obtain ⟨k, hk, rfl, hmap, hb, hc1, hnd, hall⟩ := hrel
    by_cases hlt : k < segs.length
    · obtain ⟨ad, rfl, hadb, hcell⟩ := (hA.below hb).int hlt
      have hsw := hw _ (List.getElem_mem hlt)
      have hl := hmap.look Try.underlying3 Try.underlying3 (T := 63) Try.underlying63 (zero_int _) segs[k] hsw
      have hmx : k < maxLen := by unfold maxLen; omega
      have H := Lib.hid (And.intro (take_snoc segs k hlt) (And.intro hnd hall))
      clear hnd hall
      by_cases hm : segs[k] ∈ segs.take k
      · have e : cnt (segs.take k) segs[k] = 1 := by simp [cnt, hm]
        rw [e] at hl
        have hbad := Lib.hid (segsR_bad (ns := ns) hlt (.inr (.inr hm)))
        clear hm e
        go_wp2_with (at_mapUpdate; refine wpList_mapStore _ rfl (.tmp 24) (.tmp 25) (.tmp 27) _ rfl Try.underlying3 Try.underlying3 Try.underlying63 _ k _ rfl hmap hmx _ _ rfl rfl hsw (by decide) ?_; intro w1 hmap1 hg1; have hl2 := hmap1.look Try.underlying3 Try.underlying3 (T := 63) Try.underlying63 (zero_int _) segs[k] hsw; simp only [if_true] at hl2; have hc2 := hg1.cell hc1 (by simp); clear hl hc1)
        all_goals (go_ret; exact ⟨ret_bool hbad.out.symm, hb.grown hg1 hb.size (fun j hj => by cases hj; omega)⟩)
      · have e : cnt (segs.take k) segs[k] = 0 := by simp [cnt, hm]
        rw [e] at hl
        have hgood := Lib.hid (nodup_snoc H.out.2.1 hm)
        clear hm e
        by_cases hx : segs[k] < 1 ∨ ns ≤ segs[k]
        · have hbad := Lib.hid (segsR_bad (ns := ns) hlt (hx.elim .inl fun h => .inr (.inl h)))
          clear hgood
          rcases hx with hx | hx
          all_goals
            go_wp2_with (at_mapUpdate; refine wpList_mapStore _ rfl (.tmp 24) (.tmp 25) (.tmp 27) _ rfl Try.underlying3 Try.underlying3 Try.underlying63 _ k _ rfl hmap hmx _ _ rfl rfl hsw (by decide) ?_; intro w1 hmap1 hg1; have hl2 := hmap1.look Try.underlying3 Try.underlying3 (T := 63) Try.underlying63 (zero_int _) segs[k] hsw; simp only [if_true] at hl2; have hc2 := hg1.cell hc1 (by simp); clear hl hc1)
            all_goals (go_ret; exact ⟨ret_bool hbad.out.symm, hb.grown hg1 hb.size (fun j hj => by cases hj; omega)⟩)
        · have hx1 : ¬ segs[k] < 1 := fun h => hx (.inl h)
          have hx2 : ¬ ns ≤ segs[k] := fun h => hx (.inr h)
          clear hx
          go_wp2_with (at_mapUpdate; refine wpList_mapStore _ rfl (.tmp 24) (.tmp 25) (.tmp 27) _ rfl Try.underlying3 Try.underlying3 Try.underlying63 _ k _ rfl hmap hmx _ _ rfl rfl hsw (by decide) ?_; intro w1 hmap1 hg1; have hl2 := hmap1.look Try.underlying3 Try.underlying3 (T := 63) Try.underlying63 (zero_int _) segs[k] hsw; simp only [if_true] at hl2; have hc2 := hg1.cell hc1 (by simp); clear hl hc1)
          go_roundw
          case rel =>
            refine ⟨k + 1, by omega, by go_num, ?_, hb.grown hg1 hb.size (fun j hj => by cases hj; omega), hc2, ?_, ?_⟩
            · rw [H.out.1, ← cnt_snoc]; exact hmap1
            · rw [H.out.1]; exact hgood.out
            · rw [H.out.1]
              intro s hs
              rcases List.mem_append.1 hs with h | h
              · exact H.out.2.2 s h
              · simp at h; subst h; omega
          case measure => simp [intOf]; omega
    · go_wp2
      go_ret
      refine ⟨ret_bool ?_, hb⟩
      have e : segs.take k = segs := List.take_of_length_le (by omega)
      rw [e] at hnd hall
      rw [segsR_good h0 h1 hall hnd]
end Go.Proofs.Ytjgdjfmgkmegfaa
