import Derived.Test.YtdeaefbjddodjaaGreatDoorRows
import Derived.Test.YtdeaefbjddodjaaGreatDoorLib
import Derived.Maps.RangeWalk
import Derived.Test.YtdeaefbjddodjaaGreatDoorMem
import Derived.StillTailTactics
namespace Go.Proofs.YtdeaefbjddodjaaGreatDoor
open Go.RowKit Go.Maps

theorem within_any (v lo hi : Int) (w : World) :
    Calls Tryz.prog 22 #[.int .i64 v, .int .i64 lo, .int .i64 hi] w fun e w' => e = .returned (.bool (decide (lo ≤ v) && decide (v ≤ hi))) ∧ w = w' := by
  go_enter Tryz.func22, Tryz.ntmps22
  go_wp2
  all_goals go_ret
  all_goals (refine ⟨ret_bool ?_, rfl⟩; simp [*])
  all_goals omega

def segsR (ns : Int) (l : List Int) : Bool := decide (1 ≤ l.length) && decide (l.length ≤ 64) && (l.all fun s => decide (1 ≤ s) && decide (s < ns)) && decide l.Nodup

theorem zero_int (w : World) : (zeroValue 3).run Tryz.prog w = .ok (.int .i64 0) w := by kernel_rfl

def cnt (l : List Int) (x : Int) : Int := if x ∈ l then 1 else 0
theorem cnt_snoc (l : List Int) (s : Int) : (fun y => if y = s then (1 : Int) else cnt l y) = cnt (l ++ [s]) := by
  funext y
  unfold cnt
  by_cases hy : y = s
  · simp [hy]
  · simp [hy]
theorem segsR_bad {ns : Int} {l : List Int} {k : Nat} (hk : k < l.length) (h : l[k] < 1 ∨ ns ≤ l[k] ∨ l[k] ∈ l.take k) : segsR ns l = false := by
  unfold segsR
  rcases h with h | h | h
  · have : (l.all fun s => decide (1 ≤ s) && decide (s < ns)) = false := by
      rw [List.all_eq_false]; exact ⟨l[k], List.getElem_mem hk, by simp; omega⟩
    simp [this]
  · have : (l.all fun s => decide (1 ≤ s) && decide (s < ns)) = false := by
      rw [List.all_eq_false]; exact ⟨l[k], List.getElem_mem hk, by simp; omega⟩
    simp [this]
  · have : ¬ l.Nodup := by
      intro hn
      rw [← List.take_append_drop k l, List.drop_eq_getElem_cons hk, List.nodup_append] at hn
      exact hn.2.2 _ h _ (List.mem_cons_self ..) rfl
    simp [this]
theorem segsR_good {ns : Int} {l : List Int} (h0 : ¬ l.length < 1) (h1 : ¬ 64 < l.length) (h : ∀ s ∈ l, 1 ≤ s ∧ s < ns) (hn : l.Nodup) : segsR ns l = true := by
  unfold segsR
  simp only [Bool.and_eq_true, decide_eq_true_eq, List.all_eq_true]
  exact ⟨⟨⟨by omega, by omega⟩, h⟩, hn⟩
theorem nodup_snoc {l : List Int} {s : Int} (h : l.Nodup) (hs : s ∉ l) : (l ++ [s]).Nodup := by
  rw [List.nodup_append]
  exact ⟨h, by simp, fun a ha b hb => by simp at hb; subst hb; rintro rfl; exact hs ha⟩
theorem take_snoc {α : Type} (l : List α) (k : Nat) (h : k < l.length) : l.take (k + 1) = l.take k ++ [l[k]] := by
  rw [List.take_succ_eq_append_getElem h]

set_option maxRecDepth 100000 in
set_option maxHeartbeats 1000000 in
theorem segsRight_any (id ns nx mk cl : Int) (A : Option Addr) (c : Nat) (segs : List Int) (pv : Value) (w : World) (hA : Rd w w.heap.size A (segs.map (.int .i64))) (hw : ∀ s ∈ segs, (Lit.int .i64 s).wf = true) :
    Calls Tryz.prog 23 #[.agg #[.int .i64 id, .int .i64 ns, .int .i64 nx, .int .i64 mk, .int .i64 cl, .slice A segs.length c, pv]] w fun e w' =>
      e = .returned (.bool (segsR ns segs)) ∧ Below w.heap.size w w' := by
  have hmm := @run_makeMap Tryz.prog
  by_cases h0 : segs.length < 1
  · go_enter Tryz.func23, Tryz.ntmps23
    go_wp2
    go_ret
    exact ⟨ret_bool (by unfold segsR; simp; omega), (Below.refl _ _).alloc (Nat.le_refl _) _⟩
  by_cases h1 : 64 < segs.length
  · go_enter Tryz.func23, Tryz.ntmps23
    go_wp2
    go_ret
    exact ⟨ret_bool (by unfold segsR; simp; omega), (Below.refl _ _).alloc (Nat.le_refl _) _⟩
  go_enter Tryz.func23, Tryz.ntmps23
  go_wp2
  go_loopw [20] (fun i wr => ∃ k : Nat, k ≤ segs.length ∧ i = .int .i64 k ∧ IMap Tryz.prog 3 3 wr (w.heap.size + 1) k (cnt (segs.take k)) ∧ Below w.heap.size w wr ∧
      wr.cell? ⟨w.heap.size, 1, none⟩ = some (.int .i64 ns) ∧ (segs.take k).Nodup ∧ ∀ s ∈ segs.take k, 1 ≤ s ∧ s < ns)
    (fun i _ => segs.length - (intOf i).toNat)
  case atStart =>
    refine ⟨0, Nat.zero_le _, rfl, ?_, ((Below.refl _ _).alloc (Nat.le_refl _) _).alloc (by simp) _, ?_, by simp, by simp⟩
    · have := IMap.made (P := Tryz.prog) (K := 3) (E := 3) (w.alloc (.cells #[.int .i64 id, .int .i64 ns, .int .i64 nx, .int .i64 mk, .int .i64 cl, .slice A segs.length c, pv] 25))
      have e : cnt (segs.take 0) = fun _ => 0 := by funext y; simp [cnt]
      rw [e]
      simpa using this
    · go_simp
  case round =>
    obtain ⟨k, hk, rfl, hmap, hb, hc1, hnd, hall⟩ := hrel
    by_cases hlt : k < segs.length
    · obtain ⟨ad, rfl, hadb, hcell⟩ := (hA.below hb).int hlt
      have hsw := hw _ (List.getElem_mem hlt)
      have hl := hmap.look Tryz.underlying3 Tryz.underlying3 (T := 64) Tryz.underlying64 (zero_int _) segs[k] hsw
      have hmx : k < maxLen := by unfold maxLen; omega
      have H := Lib.hid (And.intro (take_snoc segs k hlt) (And.intro hnd hall))
      clear hnd hall
      by_cases hm : segs[k] ∈ segs.take k
      · have e : cnt (segs.take k) segs[k] = 1 := by simp [cnt, hm]
        rw [e] at hl
        have hbad := Lib.hid (segsR_bad (ns := ns) hlt (.inr (.inr hm)))
        clear hm e
        go_wp2_with (at_mapUpdate; refine wpList_mapStore _ rfl (.tmp 24) (.tmp 25) (.tmp 27) _ rfl Tryz.underlying3 Tryz.underlying3 Tryz.underlying64 _ k _ rfl hmap hmx _ _ rfl rfl hsw (by decide) ?_; intro w1 hmap1 hg1; have hl2 := hmap1.look Tryz.underlying3 Tryz.underlying3 (T := 64) Tryz.underlying64 (zero_int _) segs[k] hsw; simp only [if_true] at hl2; have hc2 := hg1.cell hc1 (by simp); clear hl hc1)
        all_goals (go_ret; exact ⟨ret_bool hbad.out.symm, hb.grown hg1 hb.size (fun j hj => by cases hj; omega)⟩)
      · have e : cnt (segs.take k) segs[k] = 0 := by simp [cnt, hm]
        rw [e] at hl
        have hgood := Lib.hid (nodup_snoc H.out.2.1 hm)
        clear hm e
        by_cases hx : segs[k] < 1 ∨ ns ≤ segs[k]
        · have hbad := Lib.hid (segsR_bad (ns := ns) hlt (hx.elim .inl fun h => .inr (.inl h)))
          clear hgood
          rcases hx with hx | hx
          all_goals
            go_wp2_with (at_mapUpdate; refine wpList_mapStore _ rfl (.tmp 24) (.tmp 25) (.tmp 27) _ rfl Tryz.underlying3 Tryz.underlying3 Tryz.underlying64 _ k _ rfl hmap hmx _ _ rfl rfl hsw (by decide) ?_; intro w1 hmap1 hg1; have hl2 := hmap1.look Tryz.underlying3 Tryz.underlying3 (T := 64) Tryz.underlying64 (zero_int _) segs[k] hsw; simp only [if_true] at hl2; have hc2 := hg1.cell hc1 (by simp); clear hl hc1)
            all_goals (go_ret; exact ⟨ret_bool hbad.out.symm, hb.grown hg1 hb.size (fun j hj => by cases hj; omega)⟩)
        · have hx1 : ¬ segs[k] < 1 := fun h => hx (.inl h)
          have hx2 : ¬ ns ≤ segs[k] := fun h => hx (.inr h)
          clear hx
          go_wp2_with (at_mapUpdate; refine wpList_mapStore _ rfl (.tmp 24) (.tmp 25) (.tmp 27) _ rfl Tryz.underlying3 Tryz.underlying3 Tryz.underlying64 _ k _ rfl hmap hmx _ _ rfl rfl hsw (by decide) ?_; intro w1 hmap1 hg1; have hl2 := hmap1.look Tryz.underlying3 Tryz.underlying3 (T := 64) Tryz.underlying64 (zero_int _) segs[k] hsw; simp only [if_true] at hl2; have hc2 := hg1.cell hc1 (by simp); clear hl hc1)
          go_roundw
          case rel =>
            refine ⟨k + 1, by omega, by go_num, ?_, hb.grown hg1 hb.size (fun j hj => by cases hj; omega), hc2, ?_, ?_⟩
            · rw [H.out.1, ← cnt_snoc]; exact hmap1
            · rw [H.out.1]; exact hgood.out
            · rw [H.out.1]
              intro s hs
              rcases List.mem_append.1 hs with h | h
              · exact H.out.2.2 s h
              · simp at h; subst h; omega
          case measure => simp [intOf]; omega
    · go_wp2
      go_ret
      refine ⟨ret_bool ?_, hb⟩
      have e : segs.take k = segs := List.take_of_length_le (by omega)
      rw [e] at hnd hall
      rw [segsR_good h0 h1 hall hnd]
end Go.Proofs.YtdeaefbjddodjaaGreatDoor
namespace Go.Proofs.YtdeaefbjddodjaaGreatDoor
open Go.RowKit Go.Maps

end Go.Proofs.YtdeaefbjddodjaaGreatDoor
namespace Go.Proofs.YtdeaefbjddodjaaGreatDoor
open Go.RowKit Go.Maps

abbrev P3 := Int × Int × Int
def okp (nx last : Int) (p : P3) : Bool := decide (last < p.1) && decide (p.1 < 4294967296) && (decide (1 ≤ p.2.1) && decide (p.2.1 ≤ 1099511627775)) && (decide (0 ≤ p.2.2) && decide (p.2.2 ≤ nx - 1))
def prodsGo (nx : Int) : Int → List P3 → Bool
  | _, [] => true
  | last, p :: r => okp nx last p && prodsGo nx p.1 r
def prodsR (nx : Int) (l : List P3) : Bool := decide (l.length ≤ 64) && prodsGo nx 0 l
theorem prodsGo_bad {nx last : Int} {l : List P3} {k : Nat} (hk : k < l.length) (h : okp nx last l[k] = false) : prodsGo nx last (l.drop k) = false := by
  rw [List.drop_eq_getElem_cons hk, prodsGo, h, Bool.false_and]
theorem prodsGo_good {nx last : Int} {l : List P3} {k : Nat} (hk : k < l.length) (h : okp nx last l[k] = true) : prodsGo nx last (l.drop k) = prodsGo nx l[k].1 (l.drop (k + 1)) := by
  rw [List.drop_eq_getElem_cons hk, prodsGo, h, Bool.true_and]

set_option maxRecDepth 100000 in
set_option maxHeartbeats 1000000 in
theorem prodsRight_any (id ns nx mk cl : Int) (A : Option Addr) (c : Nat) (prods : List P3) (pv : Value) (w : World) (h0 : 0 ≤ nx) (hnx : nx ≤ 1099511627776) (hA : Rd w w.heap.size A (prods.flatMap tri)) :
    Calls Tryz.prog 24 #[.agg #[.int .i64 id, .int .i64 ns, .int .i64 nx, .int .i64 mk, .int .i64 cl, pv, .slice A prods.length c]] w fun e w' =>
      e = .returned (.bool (prodsR nx prods)) ∧ Below w.heap.size w w' := by
  by_cases h1 : 64 < prods.length
  · go_enter Tryz.func24, Tryz.ntmps24
    go_wp2
    go_ret
    exact ⟨ret_bool (by unfold prodsR; simp; omega), (Below.refl _ _).alloc (Nat.le_refl _) _⟩
  go_enter Tryz.func24, Tryz.ntmps24
  go_wp2
  go_loopw [3, 13] (fun v i wr => ∃ (k : Nat) (last : Int), k ≤ prods.length ∧ i = .int .i64 k ∧ v = .int .i64 last ∧ 0 ≤ last ∧ Below w.heap.size w wr ∧
      wr.cell? ⟨w.heap.size, 2, none⟩ = some (.int .i64 nx) ∧ w.heap.size < wr.heap.size ∧ prodsGo nx 0 prods = prodsGo nx last (prods.drop k))
    (fun _ i _ => prods.length - (intOf i).toNat)
  case atStart =>
    exact ⟨0, 0, Nat.zero_le _, rfl, rfl, by omega, (Below.refl _ _).alloc (Nat.le_refl _) _, by go_simp, by simp, by simp⟩
  case round =>
    obtain ⟨k, last, hk, rfl, rfl, hl0, hb, hc2, hsz, hgo⟩ := hrel
    have Hgo := Lib.hid hgo
    clear hgo
    by_cases hlt : k < prods.length
    · obtain ⟨ad, rfl, hadb, hp1, hp2, hp3⟩ := (hA.below hb).tri_ hlt
      generalize hpe : prods[k] = p at hp1 hp2 hp3
      have Hpe := Lib.hid hpe
      clear hpe
      by_cases hg : okp nx last p = true
      · have Hg := Lib.hid hg
        simp only [okp, Bool.and_eq_true, decide_eq_true_eq] at hg
        obtain ⟨⟨⟨g1, g2⟩, g3, g4⟩, g5, g6⟩ := hg
        go_wp2_with (go_at_call 22; refine (within_any _ _ _ _).mono ?_; rintro e w' ⟨rfl, rfl⟩)
        go_roundw
        case rel =>
          refine ⟨k + 1, p.1, by omega, by go_num, rfl, by omega, hb.alloc (by omega) _, by go_simp, by simp; omega, ?_⟩
          rw [Hgo.out, prodsGo_good hlt (by rw [Hpe.out]; exact Hg.out), Hpe.out]
        case measure => simp [intOf]; omega
      · have hbad : prodsR nx prods = false := by
          rw [prodsR, Hgo.out, prodsGo_bad hlt (by rw [Hpe.out]; simpa using hg), Bool.and_false]
        have Hbad := Lib.hid hbad
        have Hg := Lib.hid hg
        clear hbad hg
        go_wp2_with (go_at_call 22; refine (within_any _ _ _ _).mono ?_; rintro e w' ⟨rfl, rfl⟩)
        all_goals first
          | (go_ret; exact ⟨ret_bool Hbad.out.symm, hb.alloc (by omega) _⟩)
          | (exfalso; apply Hg.out; simp only [okp, Bool.and_eq_true, decide_eq_true_eq]; simp at *; omega)
    · go_wp2
      go_ret
      refine ⟨ret_bool ?_, hb⟩
      have e := Hgo.out
      rw [List.drop_of_length_le (by omega)] at e
      rw [prodsR, e, prodsGo]; simp; omega

theorem okp_ref {nx last : Int} {p : P3} : okp nx last p = true ↔ (last < p.1 ∧ p.1 < 4294967296) ∧ (1 ≤ p.2.1 ∧ p.2.1 ≤ 1099511627775) ∧ 0 ≤ p.2.2 ∧ p.2.2 ≤ nx - 1 := by
  simp only [okp, Bool.and_eq_true, decide_eq_true_eq, and_assoc]

end Go.Proofs.YtdeaefbjddodjaaGreatDoor
namespace Go.Proofs.YtdeaefbjddodjaaGreatDoor
open Go.RowKit Go.Maps

def manA (id ns : Int) : Prop := ((0 ≤ id ∧ id < 1073741824) ∧ 2 ≤ ns) ∧ ns ≤ 1073741824
def manBB (nx mk cl : Int) : Prop := ((0 ≤ nx ∧ nx ≤ 1099511627776) ∧ 0 ≤ mk ∧ mk ≤ nx) ∧ 0 ≤ cl ∧ cl ≤ 1125899906842623
instance (id ns : Int) : Decidable (manA id ns) := by unfold manA; infer_instance
instance (nx mk cl : Int) : Decidable (manBB nx mk cl) := by unfold manBB; infer_instance
def manR (id ns nx mk cl : Int) (segs : List Int) (prods : List P3) : Bool := decide (manA id ns) && decide (manBB nx mk cl) && segsR ns segs && prodsR nx prods
def manE (id ns nx mk cl : Int) (segs : List Int) (prods : List P3) : Int := if manR id ns nx mk cl segs prods = true then 0 else 70
theorem manE_bad {id ns nx mk cl : Int} {segs : List Int} {prods : List P3} (h : manR id ns nx mk cl segs prods = false) : (70 : Int) = manE id ns nx mk cl segs prods := by unfold manE; rw [h]; rfl
theorem manE_good {id ns nx mk cl : Int} {segs : List Int} {prods : List P3} (h : manR id ns nx mk cl segs prods = true) : (0 : Int) = manE id ns nx mk cl segs prods := by unfold manE; rw [h]; rfl

set_option maxRecDepth 100000 in
set_option maxHeartbeats 2000000 in
theorem check_any (id ns nx mk cl : Int) (A B : Option Addr) (c d : Nat) (segs : List Int) (prods : List P3) (w : World) (hA : Rd w w.heap.size A (segs.map (.int .i64))) (hB : Rd w w.heap.size B (prods.flatMap tri)) (hw : ∀ s ∈ segs, (Lit.int .i64 s).wf = true) :
    Calls Tryz.prog 7 #[.agg #[.int .i64 id, .int .i64 ns, .int .i64 nx, .int .i64 mk, .int .i64 cl, .slice A segs.length c, .slice B prods.length d]] w fun e w' =>
      e = .returned (.int .i64 (manE id ns nx mk cl segs prods)) ∧ Below w.heap.size w w' := by
  have hb0 : Below w.heap.size w (w.alloc (.cells #[.int .i64 id, .int .i64 ns, .int .i64 nx, .int .i64 mk, .int .i64 cl, .slice A segs.length c, .slice B prods.length d] 25)) := (Below.refl _ _).alloc (Nat.le_refl _) _
  by_cases h1 : manA id ns
  · have H1 := Lib.hid h1
    unfold manA at h1
    obtain ⟨⟨⟨a1, a2⟩, a3⟩, a4⟩ := h1
    by_cases h2 : manBB nx mk cl
    · have H2 := Lib.hid h2
      unfold manBB at h2
      obtain ⟨⟨⟨b1, b2⟩, b3, b4⟩, b5, b6⟩ := h2
      have HA := Lib.hid ((hA.below hb0).mono (B' := w.heap.size + 1) (by omega))
      have HB := Lib.hid (hB.below hb0)
      have Hfin : Hid (∀ x y, segsR ns segs = x → prodsR nx prods = y → manR id ns nx mk cl segs prods = (x && y)) := fun x y hx hy => by
        rw [manR, decide_eq_true H1.out, decide_eq_true H2.out, hx, hy]; rfl
      cases hs : segsR ns segs with
      | false =>
        have Hs := Lib.hid hs
        clear hs
        go_enter Tryz.func7, Tryz.ntmps7
        go_wp2_with (first
          | (go_at_call 22; refine (within_any _ _ _ _).mono ?_; rintro e w' ⟨rfl, rfl⟩)
          | (go_at_call 23; refine (segsRight_any id ns nx mk cl A c segs _ _ (by simpa using HA.out) hw).mono ?_; rintro e w1 ⟨rfl, hb1⟩; rw [Hs.out]))
        go_ret
        exact ⟨ret_int (manE_bad (by rw [Hfin.out _ _ Hs.out rfl]; rfl)), hb0.trans (hb1.mono (by simp))⟩
      | true =>
        have Hs := Lib.hid hs
        clear hs
        cases hp : prodsR nx prods
        all_goals
          have Hp := Lib.hid hp
          clear hp
          go_enter Tryz.func7, Tryz.ntmps7
          go_wp2_with (first
            | (go_at_call 22; refine (within_any _ _ _ _).mono ?_; rintro e w' ⟨rfl, rfl⟩)
            | (go_at_call 23; refine (segsRight_any id ns nx mk cl A c segs _ _ (by simpa using HA.out) hw).mono ?_; rintro e w1 ⟨rfl, hb1⟩; rw [Hs.out]; have hcw : ∀ i, w1.cell? ⟨w.heap.size, i, none⟩ = _ := fun i => hb1.cell (p := ⟨w.heap.size, i, none⟩) (by simp))
            | (go_at_call 24; refine (prodsRight_any id ns nx mk cl B d prods _ _ b1 b2 (((HB.out.below (hb1.mono (by simp))).mono (by have := hb1.size; simp at this; omega)))).mono ?_; rintro e w2 ⟨rfl, hb2⟩; rw [Hp.out]))
          go_ret
          have hbx := hb0.trans ((hb1.mono (by simp)).trans (hb2.mono (by have := hb1.size; simp at this; omega)))
          first
            | exact ⟨ret_int (manE_bad (by rw [Hfin.out _ _ Hs.out Hp.out]; rfl)), hbx⟩
            | exact ⟨ret_int (manE_good (by rw [Hfin.out _ _ Hs.out Hp.out]; rfl)), hbx⟩
    · have Hbad := Lib.hid (show manR id ns nx mk cl segs prods = false by rw [manR, decide_eq_false h2, Bool.and_false]; rfl)
      have H2 := Lib.hid h2
      clear h2
      go_enter Tryz.func7, Tryz.ntmps7
      go_wp2_with (go_at_call 22; refine (within_any _ _ _ _).mono ?_; rintro e w' ⟨rfl, rfl⟩)
      all_goals first
        | (go_ret; exact ⟨ret_int (manE_bad Hbad.out), hb0⟩)
        | (exfalso; apply H2.out; unfold manBB; simp at *; omega)
  · have Hbad := Lib.hid (show manR id ns nx mk cl segs prods = false by rw [manR, decide_eq_false h1]; rfl)
    have H1 := Lib.hid h1
    clear h1
    go_enter Tryz.func7, Tryz.ntmps7
    go_wp2_with fail
    all_goals first
      | (go_ret; exact ⟨ret_int (manE_bad Hbad.out), hb0⟩)
      | (exfalso; apply H1.out; unfold manA; simp at *; omega)

end Go.Proofs.YtdeaefbjddodjaaGreatDoor
namespace Go.Proofs.YtdeaefbjddodjaaGreatDoor
open Go.RowKit Go.Maps

def okc (c : UInt8) : Bool := (decide (97 ≤ c.toNat) && decide (c.toNat ≤ 122)) || (decide (48 ≤ c.toNat) && decide (c.toNat ≤ 57)) || decide (c.toNat = 45)
theorem okc_iff (c : UInt8) : okc c = true ↔ ((97 ≤ (c.toNat : Int) ∧ (c.toNat : Int) ≤ 122) ∨ (48 ≤ (c.toNat : Int) ∧ (c.toNat : Int) ≤ 57)) ∨ (c.toNat : Int) = 45 := by
  simp only [okc, Bool.or_eq_true, Bool.and_eq_true, decide_eq_true_eq]; omega
def nameB (s : ByteArray) : Bool := decide (1 ≤ s.size) && decide (s.size ≤ 24) && s.data.toList.all okc
def nameE (s : ByteArray) : Int := if nameB s = true then 0 else 74
theorem nameE_short {s : ByteArray} (h : s.size < 1) : (74 : Int) = nameE s := by
  have : nameB s = false := by simp [nameB]; omega
  simp [nameE, this]
theorem nameE_long {s : ByteArray} (h : 24 < s.size) : (74 : Int) = nameE s := by
  have : nameB s = false := by simp [nameB]; omega
  simp [nameE, this]
theorem nameE_bad {s : ByteArray} {k : Nat} (hk : k < s.size) (h : okc s[k] = false) : (74 : Int) = nameE s := by
  have : s.data.toList.all okc = false := by
    rw [List.all_eq_false]
    exact ⟨s[k], by rw [Array.mem_toList_iff]; exact Array.getElem_mem (h := hk), by simp [h]⟩
  simp [nameE, nameB, this]
theorem nameE_good {s : ByteArray} (h0 : ¬ s.size < 1) (h1 : ¬ 24 < s.size) (h : ∀ j, (hj : j < s.size) → okc s[j] = true) : (0 : Int) = nameE s := by
  have : s.data.toList.all okc = true := by
    rw [List.all_eq_true]
    intro c hc
    obtain ⟨j, hj, rfl⟩ := List.getElem_of_mem hc
    exact h j (by simpa using hj)
  have : nameB s = true := by simp only [nameB, this, Bool.and_true, Bool.and_eq_true, decide_eq_true_eq]; omega
  simp [nameE, this]

set_option maxRecDepth 100000 in
set_option maxHeartbeats 1000000 in
theorem checkName_any (s : ByteArray) (w : World) :
    Calls Tryz.prog 26 #[.string s] w fun e w' => e = .returned (.int .i64 (nameE s)) ∧ Below w.heap.size w w' := by
  have hbi : ∀ p, Below w.heap.size w (w.iter s p) := fun p => (Below.refl _ _).alloc (Nat.le_refl _) _
  by_cases h0 : s.size < 1
  · go_enter Tryz.func26, Tryz.ntmps26
    go_wp2
    go_ret
    exact ⟨ret_int (nameE_short h0), Below.refl _ _⟩
  by_cases h1 : 24 < s.size
  · go_enter Tryz.func26, Tryz.ntmps26
    go_wp2
    go_ret
    exact ⟨ret_int (nameE_long h1), Below.refl _ _⟩
  have Hbi := Lib.hid hbi
  clear hbi
  go_enter Tryz.func26, Tryz.ntmps26
  go_wp2
  go_loopw [4, 5] (fun _ _ wr => ∃ k : Nat, k ≤ s.size ∧ wr = w.iter s k ∧ ∀ j, (hj : j < s.size) → j < k → okc s[j] = true) (fun _ _ wr => s.size - wr.iterPos w.heap.size)
  case atStart => exact ⟨0, Nat.zero_le _, rfl, by intro j _ h; omega⟩
  case round =>
    obtain ⟨k, hk, rfl, hall⟩ := hrel
    have Hall := Lib.hid hall
    clear hall
    by_cases hlt : k < s.size
    · have hok := okc_iff s[k]
      have Hok := Lib.hid hok
      clear hok
      by_cases ha : s[k].toNat < 128
      · have hn := fun ty => run_next_ascii (P := Tryz.prog) w s k ty hlt ha
        have hcw : ∀ p, (w.iter s p).iterPos w.heap.size = p := fun p => World.iterPos_iter w s p
        go_wp2
        all_goals first
          | (go_ret; exact ⟨ret_int (nameE_bad hlt (by rw [← Bool.not_eq_true, Hok.out]; simp at *; omega)), Hbi.out _⟩)
          | (go_roundw
             case rel =>
               refine ⟨k + 1, by omega, rfl, fun j hj hjk => ?_⟩
               rcases Nat.lt_or_ge j k with h | h
               · exact Hall.out j hj h
               · obtain rfl : j = k := by omega
                 rw [Hok.out]; (first | omega | (simp at *; omega))
             case measure => rw [hcw, hcw]; omega)
      · have hn := fun ty => run_next_any (P := Tryz.prog) w s k ty hlt
        have hh := (decode_high s k hlt (by omega)).1
        have hh2 := decode_le s k
        generalize (Utf8.decode s k).1 = r at hn hh hh2
        generalize k + (Utf8.decode s k).2 = k2 at hn
        go_wp2
        go_ret
        exact ⟨ret_int (nameE_bad hlt (by rw [← Bool.not_eq_true, Hok.out]; omega)), Hbi.out _⟩
    · have hn := fun ty => run_next_end (P := Tryz.prog) w s k ty hlt
      go_wp2
      go_ret
      exact ⟨ret_int (nameE_good h0 h1 (fun j hj => Hall.out j hj (by omega))), Hbi.out _⟩
end Go.Proofs.YtdeaefbjddodjaaGreatDoor
namespace Go.Proofs.YtdeaefbjddodjaaGreatDoor
open Go.RowKit Go.Maps

/-- The order of texts, byte by byte: below 0, 0, above 0. -/
def cmpB : List UInt8 → List UInt8 → Int
  | [], [] => 0
  | [], _ :: _ => -1
  | _ :: _, [] => 1
  | x :: a, y :: b => if x.toNat < y.toNat then -1 else if y.toNat < x.toNat then 1 else cmpB a b
theorem cmpB_range : ∀ a b : List UInt8, cmpB a b = -1 ∨ cmpB a b = 0 ∨ cmpB a b = 1
  | [], [] => by simp [cmpB]
  | [], _ :: _ => by simp [cmpB]
  | _ :: _, [] => by simp [cmpB]
  | x :: a, y :: b => by
    simp only [cmpB]
    split
    · simp
    · split
      · simp
      · exact cmpB_range a b
theorem cmpB_self : ∀ a : List UInt8, cmpB a a = 0
  | [] => rfl
  | x :: a => by simp [cmpB, cmpB_self a]
theorem cmpB_eq : ∀ {a b : List UInt8}, cmpB a b = 0 → a = b
  | [], [], _ => rfl
  | [], _ :: _, h => by simp [cmpB] at h
  | _ :: _, [], h => by simp [cmpB] at h
  | x :: a, y :: b, h => by
    simp only [cmpB] at h
    split at h
    · simp at h
    · split at h
      · simp at h
      · have : x = y := UInt8.toNat_inj.1 (by omega)
        rw [this, cmpB_eq h]
theorem cmpB_less : ∀ a b : List UInt8, cmpB a b = -1 ↔ Op.bytesLess a b = true
  | [], [] => by simp [cmpB, Op.bytesLess]
  | [], _ :: _ => by simp [cmpB, Op.bytesLess]
  | _ :: _, [] => by simp [cmpB, Op.bytesLess]
  | x :: a, y :: b => by
    simp only [cmpB, Op.bytesLess, Bool.or_eq_true, Bool.and_eq_true, decide_eq_true_eq, beq_iff_eq, UInt8.lt_iff_toNat_lt]
    by_cases h1 : x.toNat < y.toNat
    · simp [h1]
    · by_cases h2 : y.toNat < x.toNat
      · have : x ≠ y := by rintro rfl; omega
        simp [h1, h2, this]
      · have : x = y := UInt8.toNat_inj.1 (by omega)
        subst this
        simp [h1, cmpB_less a b]
theorem cmpB_swap : ∀ a b : List UInt8, cmpB b a = - cmpB a b
  | [], [] => rfl
  | [], _ :: _ => rfl
  | _ :: _, [] => rfl
  | x :: a, y :: b => by
    simp only [cmpB]
    by_cases h1 : x.toNat < y.toNat
    · rw [if_neg (by omega), if_pos h1, if_pos h1]; rfl
    · by_cases h2 : y.toNat < x.toNat
      · rw [if_pos h2, if_neg h1, if_pos h2]
      · rw [if_neg h2, if_neg h1, if_neg h1, if_neg h2]; exact cmpB_swap a b
theorem cmpB_lt {a b : List UInt8} {k : Nat} (ha : k < a.length) (hb : k < b.length) (h : a[k].toNat < b[k].toNat) : cmpB (a.drop k) (b.drop k) = -1 := by
  rw [List.drop_eq_getElem_cons ha, List.drop_eq_getElem_cons hb, cmpB, if_pos h]
theorem cmpB_gt {a b : List UInt8} {k : Nat} (ha : k < a.length) (hb : k < b.length) (h : b[k].toNat < a[k].toNat) : cmpB (a.drop k) (b.drop k) = 1 := by
  rw [List.drop_eq_getElem_cons ha, List.drop_eq_getElem_cons hb, cmpB, if_neg (by omega), if_pos h]
theorem cmpB_next {a b : List UInt8} {k : Nat} (ha : k < a.length) (hb : k < b.length) (h : a[k].toNat = b[k].toNat) : cmpB (a.drop k) (b.drop k) = cmpB (a.drop (k + 1)) (b.drop (k + 1)) := by
  rw [List.drop_eq_getElem_cons ha, List.drop_eq_getElem_cons hb, cmpB, if_neg (by omega), if_neg (by omega)]
theorem cmpB_end {a b : List UInt8} {k : Nat} (h : min a.length b.length ≤ k) (hk : k ≤ a.length ∧ k ≤ b.length) : cmpB (a.drop k) (b.drop k) = min (max ((a.length : Int) - b.length) (-1)) 1 := by
  rcases Nat.lt_trichotomy a.length b.length with hl | hl | hl
  · have h1 : a.drop k = [] := List.drop_of_length_le (by omega)
    rw [h1, List.drop_eq_getElem_cons (by omega : k < b.length), cmpB]; omega
  · have h1 : a.drop k = [] := List.drop_of_length_le (by omega)
    have h2 : b.drop k = [] := List.drop_of_length_le (by omega)
    rw [h1, h2, cmpB]; omega
  · have h2 : b.drop k = [] := List.drop_of_length_le (by omega)
    rw [h2, List.drop_eq_getElem_cons (by omega : k < a.length), cmpB]; omega

set_option maxRecDepth 100000 in
set_option maxHeartbeats 1000000 in
theorem compare_any (s t : ByteArray) (w : World) (hs : s.size ≤ maxLen) (ht : t.size ≤ maxLen) :
    Calls Tryz.prog 25 #[.string s, .string t] w fun e w' => e = .returned (.int .i64 (cmpB s.data.toList t.data.toList)) ∧ ∃ n, w' = w.drewN n := by
  unfold maxLen at hs ht
  rcases Nat.lt_or_ge t.size s.size with hts | hts
  · go_enter Tryz.func25, Tryz.ntmps25
    go_wp2
    go_loopw [11] (fun i wr => ∃ (k n : Nat), k ≤ s.size ∧ k ≤ t.size ∧ i = .int .i64 k ∧ wr = w.drewN n ∧ cmpB s.data.toList t.data.toList = cmpB (s.data.toList.drop k) (t.data.toList.drop k)) (fun i _ => s.size - (intOf i).toNat)
    case atStart => exact ⟨0, 0, Nat.zero_le _, Nat.zero_le _, rfl, rfl, rfl⟩
    case round =>
      obtain ⟨k, n, hks, hkt, rfl, rfl, hc⟩ := hrel
      have Hc := Lib.hid hc
      clear hc
      by_cases hlt : k < t.size
      · have hls : k < s.size := by omega
        have hlt' : k < t.size := by omega
        have H1 := Lib.hid (cmpB_lt (a := s.data.toList) (b := t.data.toList) (k := k) (by simpa using hls) (by simpa using hlt'))
        have H2 := Lib.hid (cmpB_gt (a := s.data.toList) (b := t.data.toList) (k := k) (by simpa using hls) (by simpa using hlt'))
        have H3 := Lib.hid (cmpB_next (a := s.data.toList) (b := t.data.toList) (k := k) (by simpa using hls) (by simpa using hlt'))
        have hk0 : (0 : Int) ≤ k := by omega
        have hk1 : (k : Int) < s.size := by omega
        have hk2 : (k : Int) < t.size := by omega
        by_cases ha : s[k].toNat < t[k].toNat
        · have ha' : decide ((s[k].toNat : Int) < (t[k].toNat : Int)) = true := decide_eq_true (by omega)
          go_wp2
          go_quiet (fail)
          go_wp2
          go_ret
          exact ⟨ret_int (by rw [Hc.out, H1.out ha]), _, by simp only [World.drewN_drewN]; rfl⟩
        · by_cases hb : t[k].toNat < s[k].toNat
          · have ha' : decide ((s[k].toNat : Int) < (t[k].toNat : Int)) = false := decide_eq_false (by omega)
            have hb' : decide ((t[k].toNat : Int) < (s[k].toNat : Int)) = true := decide_eq_true (by omega)
            go_wp2
            go_quiet (fail)
            go_wp2
            go_quiet (fail)
            go_wp2
            go_ret
            exact ⟨ret_int (by rw [Hc.out, H2.out hb]), _, by simp only [World.drewN_drewN]; rfl⟩
          · have ha' : decide ((s[k].toNat : Int) < (t[k].toNat : Int)) = false := decide_eq_false (by omega)
            have hb' : decide ((t[k].toNat : Int) < (s[k].toNat : Int)) = false := decide_eq_false (by omega)
            go_wp2
            go_quiet (fail)
            go_wp2
            go_quiet (fail)
            go_wp2
            go_roundw
            case rel => exact ⟨k + 1, _, by omega, by omega, by go_num, rfl, by rw [Hc.out, H3.out (show s[k].toNat = t[k].toNat by omega)]⟩
            case measure => simp [intOf]; omega
      · have He := Lib.hid (cmpB_end (a := s.data.toList) (b := t.data.toList) (k := k) (by simp; omega) (by simp; omega))
        go_wp2
        all_goals
          go_ret
          refine ⟨ret_int (by rw [Hc.out, He.out]; simp; omega), _, rfl⟩
  · go_enter Tryz.func25, Tryz.ntmps25
    go_wp2
    go_loopw [11] (fun i wr => ∃ (k n : Nat), k ≤ s.size ∧ k ≤ t.size ∧ i = .int .i64 k ∧ wr = w.drewN n ∧ cmpB s.data.toList t.data.toList = cmpB (s.data.toList.drop k) (t.data.toList.drop k)) (fun i _ => s.size - (intOf i).toNat)
    case atStart => exact ⟨0, 0, Nat.zero_le _, Nat.zero_le _, rfl, rfl, rfl⟩
    case round =>
      obtain ⟨k, n, hks, hkt, rfl, rfl, hc⟩ := hrel
      have Hc := Lib.hid hc
      clear hc
      by_cases hlt : k < s.size
      · have hls : k < s.size := by omega
        have hlt' : k < t.size := by omega
        have H1 := Lib.hid (cmpB_lt (a := s.data.toList) (b := t.data.toList) (k := k) (by simpa using hls) (by simpa using hlt'))
        have H2 := Lib.hid (cmpB_gt (a := s.data.toList) (b := t.data.toList) (k := k) (by simpa using hls) (by simpa using hlt'))
        have H3 := Lib.hid (cmpB_next (a := s.data.toList) (b := t.data.toList) (k := k) (by simpa using hls) (by simpa using hlt'))
        have hk0 : (0 : Int) ≤ k := by omega
        have hk1 : (k : Int) < s.size := by omega
        have hk2 : (k : Int) < t.size := by omega
        by_cases ha : s[k].toNat < t[k].toNat
        · have ha' : decide ((s[k].toNat : Int) < (t[k].toNat : Int)) = true := decide_eq_true (by omega)
          go_wp2
          go_quiet (fail)
          go_wp2
          go_ret
          exact ⟨ret_int (by rw [Hc.out, H1.out ha]), _, by simp only [World.drewN_drewN]; rfl⟩
        · by_cases hb : t[k].toNat < s[k].toNat
          · have ha' : decide ((s[k].toNat : Int) < (t[k].toNat : Int)) = false := decide_eq_false (by omega)
            have hb' : decide ((t[k].toNat : Int) < (s[k].toNat : Int)) = true := decide_eq_true (by omega)
            go_wp2
            go_quiet (fail)
            go_wp2
            go_quiet (fail)
            go_wp2
            go_ret
            exact ⟨ret_int (by rw [Hc.out, H2.out hb]), _, by simp only [World.drewN_drewN]; rfl⟩
          · have ha' : decide ((s[k].toNat : Int) < (t[k].toNat : Int)) = false := decide_eq_false (by omega)
            have hb' : decide ((t[k].toNat : Int) < (s[k].toNat : Int)) = false := decide_eq_false (by omega)
            go_wp2
            go_quiet (fail)
            go_wp2
            go_quiet (fail)
            go_wp2
            go_roundw
            case rel => exact ⟨k + 1, _, by omega, by omega, by go_num, rfl, by rw [Hc.out, H3.out (show s[k].toNat = t[k].toNat by omega)]⟩
            case measure => simp [intOf]; omega
      · have He := Lib.hid (cmpB_end (a := s.data.toList) (b := t.data.toList) (k := k) (by simp; omega) (by simp; omega))
        go_wp2
        all_goals
          go_ret
          refine ⟨ret_int (by rw [Hc.out, He.out]; simp; omega), _, rfl⟩
end Go.Proofs.YtdeaefbjddodjaaGreatDoor
namespace Go.Proofs.YtdeaefbjddodjaaGreatDoor
open Go.RowKit Go.Maps

structure T4 where
  id : Int
  name : ByteArray
  limit : Int
  hor : Int
def quad (t : T4) : List Value := [.int .i64 t.id, .string t.name, .int .i64 t.limit, .int .i64 t.hor]
theorem quad_get (l : List T4) (i : Nat) (hi : i < l.length) :
    (l.flatMap quad)[i * 4]? = some (.int .i64 l[i].id) ∧ (l.flatMap quad)[i * 4 + 1]? = some (.string l[i].name) ∧ (l.flatMap quad)[i * 4 + 2]? = some (.int .i64 l[i].limit) ∧ (l.flatMap quad)[i * 4 + 3]? = some (.int .i64 l[i].hor) := by
  induction l generalizing i with
  | nil => simp at hi
  | cons p l ih =>
    cases i with
    | zero => simp [quad]
    | succ i =>
      have := ih i (by simpa using hi)
      have e : (i + 1) * 4 = 4 + i * 4 := by omega
      simp only [List.flatMap_cons, e, List.getElem_cons_succ]
      have hl : (quad p).length = 4 := rfl
      refine ⟨?_, ?_, ?_, ?_⟩
      · rw [List.getElem?_append_right (by omega), hl, show 4 + i * 4 - 4 = i * 4 by omega]; exact this.1
      · rw [List.getElem?_append_right (by omega), hl, show 4 + i * 4 + 1 - 4 = i * 4 + 1 by omega]; exact this.2.1
      · rw [List.getElem?_append_right (by omega), hl, show 4 + i * 4 + 2 - 4 = i * 4 + 2 by omega]; exact this.2.2.1
      · rw [List.getElem?_append_right (by omega), hl, show 4 + i * 4 + 3 - 4 = i * 4 + 3 by omega]; exact this.2.2.2
theorem quad_len (l : List T4) : (l.flatMap quad).length = l.length * 4 := by
  induction l with
  | nil => rfl
  | cons p l ih => simp only [List.flatMap_cons, List.length_append, ih, List.length_cons]; show 4 + _ = _; omega
theorem Rd.quad_ {w : World} {B : Nat} {A : Option Addr} {l : List T4} (h : Rd w B A (l.flatMap quad)) {i : Nat} (hi : i < l.length) :
    ∃ ad : Addr, A = some ad ∧ ad.block < B ∧ w.cell? (ad.add (i * 4)) = some (.int .i64 l[i].id) ∧
      w.cell? ⟨(ad.add (i * 4)).block, (ad.add (i * 4)).off + 1, none⟩ = some (.string l[i].name) ∧ w.cell? ⟨(ad.add (i * 4)).block, (ad.add (i * 4)).off + 2, none⟩ = some (.int .i64 l[i].limit) ∧
      w.cell? ⟨(ad.add (i * 4)).block, (ad.add (i * 4)).off + 3, none⟩ = some (.int .i64 l[i].hor) := by
  obtain ⟨h1, h2, h3, h4⟩ := quad_get l i hi
  obtain ⟨ad, rfl, hb, c1⟩ := h _ _ h1
  obtain ⟨a2, e2, _, c2⟩ := h _ _ h2
  obtain ⟨a3, e3, _, c3⟩ := h _ _ h3
  obtain ⟨a4, e4, _, c4⟩ := h _ _ h4
  cases e2; cases e3; cases e4
  rw [← add_add'] at c2 c3 c4
  exact ⟨ad, rfl, hb, c1, c2, c3, c4⟩

/-- May this topic stand behind those with the numbers 'seen', the last of them named 'prev'? -/
def oktP (nid : Int) (seen : List Int) (prev : Option ByteArray) (t : T4) : Prop :=
  (∀ p, prev = some p → cmpB p.data.toList t.name.data.toList < 0) ∧ nameE t.name = 0 ∧ (1 ≤ t.id ∧ t.id < nid) ∧ t.id ∉ seen ∧ (256 ≤ t.limit ∧ t.limit ≤ 65536) ∧ 0 ≤ t.hor ∧ t.hor ≤ 1099511627776
open Classical in
noncomputable def catGo (nid : Int) : List Int → Option ByteArray → List T4 → Bool
  | _, _, [] => true
  | seen, prev, t :: r => decide (oktP nid seen prev t) && catGo nid (seen ++ [t.id]) (some t.name) r
noncomputable def catR (nid : Int) (l : List T4) : Bool := decide (1 ≤ nid) && decide (nid ≤ 1073741824) && decide (l.length ≤ 16) && catGo nid [] none l
noncomputable def catE (nid : Int) (l : List T4) : Int := if catR nid l = true then 0 else 71
theorem catE_bad {nid : Int} {l : List T4} (h : catR nid l = false) : (71 : Int) = catE nid l := by unfold catE; rw [h]; rfl
theorem catE_good {nid : Int} {l : List T4} (h : catR nid l = true) : (0 : Int) = catE nid l := by unfold catE; rw [h]; rfl
theorem catGo_bad {nid : Int} {seen : List Int} {prev : Option ByteArray} {l : List T4} {k : Nat} (hk : k < l.length) (h : ¬ oktP nid seen prev l[k]) : catGo nid seen prev (l.drop k) = false := by
  rw [List.drop_eq_getElem_cons hk, catGo]; simp [h]
theorem catGo_good {nid : Int} {seen : List Int} {prev : Option ByteArray} {l : List T4} {k : Nat} (hk : k < l.length) (h : oktP nid seen prev l[k]) :
    catGo nid seen prev (l.drop k) = catGo nid (seen ++ [l[k].id]) (some l[k].name) (l.drop (k + 1)) := by
  rw [List.drop_eq_getElem_cons hk, catGo]; simp [h]

theorem IMap.below {P : Program} {K E : TypeId} {w w' : World} {b n : Nat} {f : Int → Int} (h : IMap P K E w b n f) (hb : Below w.heap.size w w') : IMap P K E w' b n f :=
  h.kept (row := none) ⟨hb.os, hb.tape, hb.output, hb.size, fun i hi _ => hb.block i hi⟩ (by simp)

/-- What a round of CheckCatalogue knows of the world: the entry's own variable (block e), the catalogue's (block b), the map of numbers (block b + 1). -/
structure CatW (nid : Int) (sl : Value) (p : T4) (B b e n : Nat) (f : Int → Int) (w0 W : World) : Prop where
  e0 : W.cell? ⟨e, 0, none⟩ = some (.int .i64 p.id)
  e1 : W.cell? ⟨e, 1, none⟩ = some (.string p.name)
  e2 : W.cell? ⟨e, 2, none⟩ = some (.int .i64 p.limit)
  e3 : W.cell? ⟨e, 3, none⟩ = some (.int .i64 p.hor)
  b0 : W.cell? ⟨b, 0, none⟩ = some (.int .i64 nid)
  b1 : W.cell? ⟨b, 1, none⟩ = some sl
  map : IMap Tryz.prog 3 3 W (b + 1) n f
  below : Below B w0 W
  size : e < W.heap.size ∧ b < W.heap.size
theorem CatW.next {nid : Int} {sl : Value} {p : T4} {B b e n : Nat} {f : Int → Int} {w0 W W' : World} (h : CatW nid sl p B b e n f w0 W) (hB : B ≤ W.heap.size) (hb : Below W.heap.size W W') : CatW nid sl p B b e n f w0 W' :=
  have c : ∀ {q : Addr} {u : Value}, W.cell? q = some u → W'.cell? q = some u := fun hq => (hb.cell (World.block_lt_of_cell? _ _ hq)).trans hq
  ⟨c h.e0, c h.e1, c h.e2, c h.e3, c h.b0, c h.b1, h.map.below hb, h.below.trans (hb.mono hB), Nat.lt_of_lt_of_le h.size.1 hb.size, Nat.lt_of_lt_of_le h.size.2 hb.size⟩
theorem CatW.drewN {nid : Int} {sl : Value} {p : T4} {B b e n : Nat} {f : Int → Int} {w0 W : World} (h : CatW nid sl p B b e n f w0 W) (m : Nat) : CatW nid sl p B b e n f w0 (W.drewN m) :=
  ⟨h.e0, h.e1, h.e2, h.e3, h.b0, h.b1, h.map, below_drewN h.below m, h.size⟩

set_option maxRecDepth 100000 in
set_option maxHeartbeats 2000000 in
theorem checkCat_any (nid : Int) (A : Option Addr) (c : Nat) (l : List T4) (w : World) (hA : Rd w w.heap.size A (l.flatMap quad)) (hw : ∀ t ∈ l, (Lit.int .i64 t.id).wf = true ∧ t.name.size ≤ maxLen) :
    Calls Tryz.prog 8 #[.agg #[.int .i64 nid, .slice A l.length c]] w fun e w' =>
      e = .returned (.int .i64 (catE nid l)) ∧ Below w.heap.size w w' := by
  have hmm := @run_makeMap Tryz.prog
  have hb0 : Below w.heap.size w (w.alloc (.cells #[.int .i64 nid, .slice A l.length c] 28)) := (Below.refl _ _).alloc (Nat.le_refl _) _
  by_cases h1 : ¬ (1 ≤ nid ∧ nid ≤ 1073741824 ∧ l.length ≤ 16)
  · have Hbad := Lib.hid (show catR nid l = false by
      by_cases a : 1 ≤ nid <;> by_cases b : nid ≤ 1073741824 <;> by_cases d : l.length ≤ 16 <;> simp [catR, a, b, d] <;> exact absurd ⟨a, b, d⟩ h1)
    have H1 := Lib.hid h1
    clear h1
    go_enter Tryz.func8, Tryz.ntmps8
    go_wp2
    all_goals first
      | (go_ret; exact ⟨ret_int (catE_bad Hbad.out), hb0⟩)
      | (exfalso; apply H1.out; omega)
  have h1' : 1 ≤ nid ∧ nid ≤ 1073741824 ∧ l.length ≤ 16 := Classical.not_not.1 h1
  clear h1
  obtain ⟨g1, g2, g3⟩ := h1'
  have Hfin : Hid (∀ x, catGo nid [] none l = x → catR nid l = x) := fun x hx => by rw [catR, hx]; simp [g1, g2, g3]
  go_enter Tryz.func8, Tryz.ntmps8
  go_wp2
  go_loopw [24] (fun i wr => ∃ (k : Nat) (prev : Option ByteArray), k ≤ l.length ∧ i = .int .i64 k ∧ IMap Tryz.prog 3 3 wr (w.heap.size + 1) k (cnt ((l.take k).map T4.id)) ∧ Below w.heap.size w wr ∧
      wr.cell? ⟨w.heap.size, 0, none⟩ = some (.int .i64 nid) ∧ wr.cell? ⟨w.heap.size, 1, none⟩ = some (.slice A l.length c) ∧ w.heap.size + 1 < wr.heap.size ∧
      catGo nid [] none l = catGo nid ((l.take k).map T4.id) prev (l.drop k) ∧ (k = 0 → prev = none) ∧ ∀ t, 0 < k → l[k - 1]? = some t → prev = some t.name)
    (fun i _ => l.length - (intOf i).toNat)
  case atStart =>
    refine ⟨0, none, Nat.zero_le _, rfl, ?_, hb0.alloc (by simp) _, by go_simp, by go_simp, by simp, rfl, fun _ => rfl, by omega⟩
    have := IMap.made (P := Tryz.prog) (K := 3) (E := 3) (w.alloc (.cells #[.int .i64 nid, .slice A l.length c] 28))
    have e : cnt ((l.take 0).map T4.id) = fun _ => 0 := by funext y; simp [cnt]
    rw [e]
    simpa using this
  case round =>
    obtain ⟨k, prev, hk, rfl, hmap, hb, hc0, hc1, hsz, hgo, hpz, hpp⟩ := hrel
    have Hgo := Lib.hid hgo
    have Hpz := Lib.hid hpz
    have Hpp := Lib.hid hpp
    clear hgo hpz hpp
    by_cases hlt : k < l.length
    · have hrd := Lib.hid (hA.below hb)
      obtain ⟨ad, rfl, hadb, hp1, hp2, hp3, hp4⟩ := hrd.out.quad_ hlt
      have hw1 := hw _ (List.getElem_mem hlt)
      generalize hpe : l[k] = p at hp1 hp2 hp3 hp4 hw1
      have Hpe := Lib.hid hpe
      clear hpe
      obtain ⟨hwf, hns⟩ := hw1
      have hmx : k < maxLen := by unfold maxLen; omega
      have hmapo : ∀ o, IMap Tryz.prog 3 3 (wr.alloc o) (w.heap.size + 1) k (cnt ((l.take k).map T4.id)) := fun o => hmap.kept (World.grownBy_alloc wr o none) (by simp)
      have hl := fun o => (hmapo o).look Tryz.underlying3 Tryz.underlying3 (T := 64) Tryz.underlying64 (zero_int _) p.id hwf
      have Hmapo := Lib.hid hmapo
      clear hmapo
      have Htake := Lib.hid (show (l.take (k + 1)).map T4.id = (l.take k).map T4.id ++ [p.id] by rw [take_snoc l k hlt, Hpe.out]; simp)
      have Hcat : Hid (∀ w1, IMap Tryz.prog 3 3 w1 (w.heap.size + 1) (k + 1) (fun y => if y = p.id then cnt ((l.take k).map T4.id) p.id + 1 else cnt ((l.take k).map T4.id) y) →
          (wr.alloc (.cells #[.int .i64 p.id, .string p.name, .int .i64 p.limit, .int .i64 p.hor] 59)).grownBy w1 (some (w.heap.size + 1)) →
          CatW nid (.slice (some ad) l.length c) p w.heap.size w.heap.size wr.heap.size (k + 1) (fun y => if y = p.id then cnt ((l.take k).map T4.id) p.id + 1 else cnt ((l.take k).map T4.id) y) w w1) := fun w1 hm hg =>
        ⟨hg.cell (by go_simp) (by simp; omega), hg.cell (by go_simp) (by simp; omega), hg.cell (by go_simp) (by simp; omega), hg.cell (by go_simp) (by simp; omega),
          hg.cell ((World.cell?_alloc_lt _ _ _ (by simp; omega)).trans hc0) (by simp), hg.cell ((World.cell?_alloc_lt _ _ _ (by simp; omega)).trans hc1) (by simp), hm,
          (hb.alloc (by omega) _).grown hg (by simp; omega) (fun j hj => by cases hj; omega), by have := hg.size; simp at this; omega, by have := hg.size; simp at this; omega⟩
      by_cases hm : p.id ∈ (l.take k).map T4.id
      · have e : cnt ((l.take k).map T4.id) p.id = 1 := by simp only [cnt, hm, if_true]
        simp only [e] at hl Hcat
        have Hbad := Lib.hid (catE_bad (Hfin.out _ (Hgo.out.trans (catGo_bad (prev := prev) hlt (by rw [Hpe.out]; exact fun h => h.2.2.2.1 hm)))))
        clear hm e
        by_cases hk0 : 0 < k
        · obtain ⟨m, rfl⟩ : ∃ m, k = m + 1 := ⟨k - 1, by omega⟩
          have hk00 : decide ((0 : Int) < (m : Int) + 1) = true := decide_eq_true (by omega)
          have hwr : IntKind.i64.wrap (m : Int) = m := Go.IntWalk.i64_in _ (by omega)
          have hm0 : (0 : Int) ≤ m := by omega
          have hm1 : (m : Int) < l.length := by omega
          obtain ⟨ad', ee, _, z1, z2, z3, z4⟩ := hrd.out.quad_ (i := m) (by omega)
          cases ee
          have hqs := (hw _ (List.getElem_mem (show m < l.length by omega))).2
          have Hq := Lib.hid (Hpp.out l[m] hk0 (by simp))
          generalize l[m] = q at z1 z2 z3 z4 hqs Hq
          clear z1 z3 z4
          go_wp2_with (at_mapUpdate; refine wpList_mapStore _ rfl (.tmp 29) (.tmp 31) (.tmp 33) _ rfl Tryz.underlying3 Tryz.underlying3 Tryz.underlying64 _ (m + 1) _ rfl (Hmapo.out _) hmx _ _ rfl rfl hwf (by decide) ?_; intro w1 hmap1 hg1)
          have hW := Hcat.out w1 hmap1 hg1
          have q0 := hW.e0; have q1 := hW.e1; have q2 := hW.e2; have q3 := hW.e3; have q4 := hW.b0; have q5 := hW.b1
          have HW := Lib.hid hW
          have zz : w1.cell? ⟨(ad.add (m * 4)).block, (ad.add (m * 4)).off + 1, none⟩ = some (.string q.name) := hg1.cell ((World.cell?_alloc_lt _ _ _ (by rw [add_block]; omega)).trans z2) (by simp [add_block]; omega)
          clear z2
          clear hW hmap1 hg1 hl hc0 hc1 hp1 hp2 hp3 hp4
          go_frame
          go_quiet ((go_at_call 25; exact Calls.quiet_of (compare_any _ _ _ hqs hns)))
          go_wp2_with (go_at_call 26; refine (checkName_any _ _).mono ?_; rintro e w3 ⟨rfl, hb3⟩; have hW3 := (HW.out.drewN _).next (by have := HW.out.below.size; simpa using this) hb3; have r0 := hW3.e0; have r1 := hW3.e1; have r2 := hW3.e2; have r3 := hW3.e3; have r4 := hW3.b0; have r5 := hW3.b1; have hl3 := hW3.map.look Tryz.underlying3 Tryz.underlying3 (T := 64) Tryz.underlying64 (zero_int _) p.id hwf; simp only [if_true] at hl3; have HW3 := Lib.hid hW3; clear hW3)
          all_goals first
            | (go_ret; exact ⟨ret_int Hbad.out, HW3.out.below⟩)
            | (go_ret; exact ⟨ret_int Hbad.out, (HW.out.drewN _).below⟩)
        · have hk00 : decide ((0 : Int) < (k : Int)) = false := by simp at hk0 ⊢; omega
          go_wp2_with (at_mapUpdate; refine wpList_mapStore _ rfl (.tmp 29) (.tmp 31) (.tmp 33) _ rfl Tryz.underlying3 Tryz.underlying3 Tryz.underlying64 _ k _ rfl (Hmapo.out _) hmx _ _ rfl rfl hwf (by decide) ?_; intro w1 hmap1 hg1)
          have hW := Hcat.out w1 hmap1 hg1
          have q0 := hW.e0; have q1 := hW.e1; have q2 := hW.e2; have q3 := hW.e3; have q4 := hW.b0; have q5 := hW.b1
          have HW := Lib.hid hW
          clear hW hmap1 hg1 hl hc0 hc1 hp1 hp2 hp3 hp4
          go_frame
          go_quiet (fail)
          go_wp2_with (go_at_call 26; refine (checkName_any _ _).mono ?_; rintro e w3 ⟨rfl, hb3⟩; have hW3 := (HW.out.drewN _).next (by have := HW.out.below.size; simpa using this) hb3; have r0 := hW3.e0; have r1 := hW3.e1; have r2 := hW3.e2; have r3 := hW3.e3; have r4 := hW3.b0; have r5 := hW3.b1; have hl3 := hW3.map.look Tryz.underlying3 Tryz.underlying3 (T := 64) Tryz.underlying64 (zero_int _) p.id hwf; simp only [if_true] at hl3; have HW3 := Lib.hid hW3; clear hW3)
          all_goals first
            | (go_ret; exact ⟨ret_int Hbad.out, HW3.out.below⟩)
            | (go_ret; exact ⟨ret_int Hbad.out, (HW.out.drewN _).below⟩)
      · have e : cnt ((l.take k).map T4.id) p.id = 0 := by simp only [cnt, hm, if_false]
        simp only [e] at hl Hcat
        have Hm := Lib.hid hm
        clear hm e
        by_cases hk0 : 0 < k
        · obtain ⟨m, rfl⟩ : ∃ m, k = m + 1 := ⟨k - 1, by omega⟩
          have hk00 : decide ((0 : Int) < (m : Int) + 1) = true := decide_eq_true (by omega)
          have hwr : IntKind.i64.wrap (m : Int) = m := Go.IntWalk.i64_in _ (by omega)
          have hm0 : (0 : Int) ≤ m := by omega
          have hm1 : (m : Int) < l.length := by omega
          obtain ⟨ad', ee, _, z1, z2, z3, z4⟩ := hrd.out.quad_ (i := m) (by omega)
          cases ee
          have hqs := (hw _ (List.getElem_mem (show m < l.length by omega))).2
          have Hq := Lib.hid (Hpp.out l[m] hk0 (by simp))
          generalize l[m] = q at z1 z2 z3 z4 hqs Hq
          clear z1 z3 z4
          have Hok : Hid (oktP nid ((l.take (m + 1)).map T4.id) prev p ↔ (cmpB q.name.data.toList p.name.data.toList < 0 ∧ nameE p.name = 0 ∧ (1 ≤ p.id ∧ p.id < nid) ∧ (256 ≤ p.limit ∧ p.limit ≤ 65536) ∧ 0 ≤ p.hor ∧ p.hor ≤ 1099511627776)) := by
            have hp := Hq.out
            constructor
            · rintro ⟨a, b, c, _, d⟩
              exact ⟨a _ hp, b, c, d⟩
            · rintro ⟨a, b, c, d⟩
              exact ⟨(fun x hx => by rw [hp] at hx; cases hx; exact a), b, c, Hm.out, d⟩
          go_wp2_with (at_mapUpdate; refine wpList_mapStore _ rfl (.tmp 29) (.tmp 31) (.tmp 33) _ rfl Tryz.underlying3 Tryz.underlying3 Tryz.underlying64 _ (m + 1) _ rfl (Hmapo.out _) hmx _ _ rfl rfl hwf (by decide) ?_; intro w1 hmap1 hg1)
          have hW := Hcat.out w1 hmap1 hg1
          have q0 := hW.e0; have q1 := hW.e1; have q2 := hW.e2; have q3 := hW.e3; have q4 := hW.b0; have q5 := hW.b1
          have HW := Lib.hid hW
          have zz : w1.cell? ⟨(ad.add (m * 4)).block, (ad.add (m * 4)).off + 1, none⟩ = some (.string q.name) := hg1.cell ((World.cell?_alloc_lt _ _ _ (by rw [add_block]; omega)).trans z2) (by simp [add_block]; omega)
          clear z2
          clear hW hmap1 hg1 hl hc0 hc1 hp1 hp2 hp3 hp4
          go_frame
          go_quiet ((go_at_call 25; exact Calls.quiet_of (compare_any _ _ _ hqs hns)))
          go_wp2_with (go_at_call 26; refine (checkName_any _ _).mono ?_; rintro e w3 ⟨rfl, hb3⟩; have hW3 := (HW.out.drewN _).next (by have := HW.out.below.size; simpa using this) hb3; have r0 := hW3.e0; have r1 := hW3.e1; have r2 := hW3.e2; have r3 := hW3.e3; have r4 := hW3.b0; have r5 := hW3.b1; have hl3 := hW3.map.look Tryz.underlying3 Tryz.underlying3 (T := 64) Tryz.underlying64 (zero_int _) p.id hwf; simp only [if_true] at hl3; have HW3 := Lib.hid hW3; clear hW3)
          all_goals first
            | (go_ret; exact ⟨ret_int (catE_bad (Hfin.out _ (Hgo.out.trans (catGo_bad hlt (by rw [Hpe.out, Hok.out]; omega))))), HW3.out.below⟩)
            | (go_ret; exact ⟨ret_int (catE_bad (Hfin.out _ (Hgo.out.trans (catGo_bad hlt (by rw [Hpe.out, Hok.out]; omega))))), (HW.out.drewN _).below⟩)
            | (go_roundw
               case rel =>
                 refine ⟨(m + 1) + 1, some p.name, by omega, by go_num, ?_, HW3.out.below, r4, r5, by have := HW3.out.size; have := HW3.out.map.lt; omega, ?_, by omega, ?_⟩
                 · rw [Htake.out, ← cnt_snoc]; exact HW3.out.map
                 · rw [Hgo.out, catGo_good hlt (by rw [Hpe.out, Hok.out]; (first | omega | exact ⟨trivial, by omega⟩)), Htake.out, Hpe.out]
                 · intro t _ ht
                   rw [show (m + 1) + 1 - 1 = (m + 1) from rfl, List.getElem?_eq_getElem hlt, Hpe.out] at ht
                   cases ht; rfl
               case measure => simp [intOf]; omega)
        · have hk00 : decide ((0 : Int) < (k : Int)) = false := by simp at hk0 ⊢; omega
          have Hok : Hid (oktP nid ((l.take k).map T4.id) prev p ↔ (True ∧ nameE p.name = 0 ∧ (1 ≤ p.id ∧ p.id < nid) ∧ (256 ≤ p.limit ∧ p.limit ≤ 65536) ∧ 0 ≤ p.hor ∧ p.hor ≤ 1099511627776)) := by
            have hp := Hpz.out (by omega)
            constructor
            · rintro ⟨a, b, c, _, d⟩
              exact ⟨trivial, b, c, d⟩
            · rintro ⟨a, b, c, d⟩
              exact ⟨(fun x hx => by rw [hp] at hx; cases hx), b, c, Hm.out, d⟩
          go_wp2_with (at_mapUpdate; refine wpList_mapStore _ rfl (.tmp 29) (.tmp 31) (.tmp 33) _ rfl Tryz.underlying3 Tryz.underlying3 Tryz.underlying64 _ k _ rfl (Hmapo.out _) hmx _ _ rfl rfl hwf (by decide) ?_; intro w1 hmap1 hg1)
          have hW := Hcat.out w1 hmap1 hg1
          have q0 := hW.e0; have q1 := hW.e1; have q2 := hW.e2; have q3 := hW.e3; have q4 := hW.b0; have q5 := hW.b1
          have HW := Lib.hid hW
          clear hW hmap1 hg1 hl hc0 hc1 hp1 hp2 hp3 hp4
          go_frame
          go_quiet (fail)
          go_wp2_with (go_at_call 26; refine (checkName_any _ _).mono ?_; rintro e w3 ⟨rfl, hb3⟩; have hW3 := (HW.out.drewN _).next (by have := HW.out.below.size; simpa using this) hb3; have r0 := hW3.e0; have r1 := hW3.e1; have r2 := hW3.e2; have r3 := hW3.e3; have r4 := hW3.b0; have r5 := hW3.b1; have hl3 := hW3.map.look Tryz.underlying3 Tryz.underlying3 (T := 64) Tryz.underlying64 (zero_int _) p.id hwf; simp only [if_true] at hl3; have HW3 := Lib.hid hW3; clear hW3)
          all_goals first
            | (go_ret; exact ⟨ret_int (catE_bad (Hfin.out _ (Hgo.out.trans (catGo_bad hlt (by rw [Hpe.out, Hok.out]; omega))))), HW3.out.below⟩)
            | (go_ret; exact ⟨ret_int (catE_bad (Hfin.out _ (Hgo.out.trans (catGo_bad hlt (by rw [Hpe.out, Hok.out]; omega))))), (HW.out.drewN _).below⟩)
            | (go_roundw
               case rel =>
                 refine ⟨k + 1, some p.name, by omega, by go_num, ?_, HW3.out.below, r4, r5, by have := HW3.out.size; have := HW3.out.map.lt; omega, ?_, by omega, ?_⟩
                 · rw [Htake.out, ← cnt_snoc]; exact HW3.out.map
                 · rw [Hgo.out, catGo_good hlt (by rw [Hpe.out, Hok.out]; (first | omega | exact ⟨trivial, by omega⟩)), Htake.out, Hpe.out]
                 · intro t _ ht
                   rw [show k + 1 - 1 = k from rfl, List.getElem?_eq_getElem hlt, Hpe.out] at ht
                   cases ht; rfl
               case measure => simp [intOf]; omega)
    · go_wp2
      go_ret
      refine ⟨ret_int (catE_good (Hfin.out _ ?_)), hb⟩
      rw [Hgo.out, List.drop_of_length_le (by omega)]; rfl
end Go.Proofs.YtdeaefbjddodjaaGreatDoor
namespace Go.Proofs.YtdeaefbjddodjaaGreatDoor
open Go.RowKit Go.Maps

theorem quiet_same {P : Program} {f : FuncId} {args : Array Value} {w : World} {n : Nat} {v : Value}
    (h : Calls P f args (w.drewN n) fun e w' => e = .returned v ∧ w.drewN n = w') : Calls P f args (w.drewN n) fun e w'' => e = .returned v ∧ ∃ m, w'' = w.drewN m :=
  h.mono fun _ _ ⟨he, hm⟩ => ⟨he, n, hm.symm⟩

/-- What a round of the reference's CheckCatalogue knows of the world. -/
structure CatV (nid : Int) (sl : Value) (p : T4) (B b e : Nat) (w0 W : World) : Prop where
  e0 : W.cell? ⟨e, 0, none⟩ = some (.int .i64 p.id)
  e1 : W.cell? ⟨e, 1, none⟩ = some (.string p.name)
  e2 : W.cell? ⟨e, 2, none⟩ = some (.int .i64 p.limit)
  e3 : W.cell? ⟨e, 3, none⟩ = some (.int .i64 p.hor)
  b0 : W.cell? ⟨b, 0, none⟩ = some (.int .i64 nid)
  b1 : W.cell? ⟨b, 1, none⟩ = some sl
  below : Below B w0 W
  size : e < W.heap.size ∧ b < W.heap.size
theorem CatV.drewN {nid : Int} {sl : Value} {p : T4} {B b e : Nat} {w0 W : World} (h : CatV nid sl p B b e w0 W) (m : Nat) : CatV nid sl p B b e w0 (W.drewN m) :=
  ⟨h.e0, h.e1, h.e2, h.e3, h.b0, h.b1, below_drewN h.below m, h.size⟩
theorem leq_cmp (a b : ByteArray) : (Op.bytesLess a.toList b.toList || a.toList == b.toList) = decide (0 ≤ cmpB b.data.toList a.data.toList) := by
  rw [← ByteArray.toList_eq, ← ByteArray.toList_eq]
  have h1 := cmpB_less a.toList b.toList
  have h2 := cmpB_swap a.toList b.toList
  have h3 := cmpB_range a.toList b.toList
  by_cases he : a.toList = b.toList
  · simp [he, cmpB_self]
  · have hne : cmpB a.toList b.toList ≠ 0 := fun h => he (cmpB_eq h)
    have he' : (a.toList == b.toList) = false := by simp [he]
    rw [he', Bool.or_false]
    cases hl : Op.bytesLess a.toList b.toList with
    | true =>
      have := h1.2 hl
      exact (decide_eq_true (by omega)).symm
    | false =>
      have : ¬ cmpB a.toList b.toList = -1 := fun h => by rw [h1.1 h] at hl; cases hl
      exact (decide_eq_false (by omega)).symm

end Go.Proofs.YtdeaefbjddodjaaGreatDoor
namespace Go.Proofs.YtdeaefbjddodjaaGreatDoor
open Go.RowKit Go.Maps

theorem info_int : (Tryz.prog.info? 3).map (fun i => (i.zero, i.size, i.bytes)) = some (some (.int .i64 0), 1, 8) := by kernel_rfl
theorem info_prod : (Tryz.prog.info? 55).map (fun i => (i.zero, i.size, i.bytes)) = some (some (.agg #[.int .i64 0, .int .i64 0, .int .i64 0]), 3, 24) := by kernel_rfl

/-- A manifest's value. -/
abbrev manV (id ns nx mk cl : Int) (s p : Value) : Value := .agg #[.int .i64 id, .int .i64 ns, .int .i64 nx, .int .i64 mk, .int .i64 cl, s, p]

end Go.Proofs.YtdeaefbjddodjaaGreatDoor
namespace Go.Proofs.YtdeaefbjddodjaaGreatDoor
open Go.RowKit Go.Maps

theorem info_topic : (Tryz.prog.info? 59).map (fun i => (i.zero, i.size, i.bytes)) = some (some (.agg #[.int .i64 0, .string ByteArray.empty, .int .i64 0, .int .i64 0]), 4, 40) := by kernel_rfl
theorem one_quad (l : List T4) : ∀ u ∈ l.flatMap quad, u.oneCell' = true := by
  intro u hu
  obtain ⟨p, _, hp⟩ := List.mem_flatMap.1 hu
  simp [quad] at hp
  rcases hp with rfl | rfl | rfl | rfl <;> rfl

end Go.Proofs.YtdeaefbjddodjaaGreatDoor
namespace Go.Proofs.YtdeaefbjddodjaaGreatDoor
open Go.RowKit Go.Maps

theorem wf_bounds {x : Int} (h : (Lit.int .i64 x).wf = true) : -9223372036854775808 ≤ x ∧ x ≤ 9223372036854775807 := by
  simp [Lit.wf, IntKind.min, IntKind.max, IntKind.signed, IntKind.bits] at h; omega
theorem Own.int {w : World} {B g : Nat} {t : TypeId} {k : IntKind} {l : List Int} {ts : List Value} (h : Own w B g t (l.map (Value.int k) ++ ts)) {i : Nat} (hi : i < l.length) : w.cell? ⟨g, i, none⟩ = some (.int k l[i]) := by
  rw [h.cell (by simp; omega)]; simp [List.getElem_append_left, hi]
theorem Own.int_set {w : World} {B g : Nat} {t : TypeId} {k : IntKind} {l : List Int} {ts : List Value} (h : Own w B g t (l.map (Value.int k) ++ ts)) {i : Nat} (hi : i < l.length) (x : Int) :
    Own (w.setCell ⟨g, i, none⟩ (.int k x)) B g t ((l.set i x).map (Value.int k) ++ ts) := by
  have := h.set_ (i := i) (by simp; omega) (.int k x)
  rwa [List.set_append_left _ _ (by simpa using hi), ← List.map_set] at this

theorem tri_at (l : List P3) (ts : List Value) {i : Nat} (hi : i < l.length) :
    (l.flatMap tri ++ ts)[i * 3]? = some (.int .i64 l[i].1) ∧ (l.flatMap tri ++ ts)[i * 3 + 1]? = some (.int .i64 l[i].2.1) ∧ (l.flatMap tri ++ ts)[i * 3 + 2]? = some (.int .i64 l[i].2.2) := by
  obtain ⟨h1, h2, h3⟩ := tri_get l i hi
  have hl := tri_len l
  exact ⟨by rw [List.getElem?_append_left (by omega)]; exact h1, by rw [List.getElem?_append_left (by omega)]; exact h2, by rw [List.getElem?_append_left (by omega)]; exact h3⟩
theorem Own.get {w : World} {B g : Nat} {t : TypeId} {cs : List Value} (h : Own w B g t cs) {i : Nat} {u : Value} (hi : cs[i]? = some u) : w.cell? ⟨g, i, none⟩ = some u := by
  have hl := (List.getElem?_eq_some_iff.1 hi).1
  rw [h.cell hl, ← hi, List.getElem?_eq_getElem hl]
theorem Own.tri_ {w : World} {B g : Nat} {t : TypeId} {l : List P3} {ts : List Value} (h : Own w B g t (l.flatMap tri ++ ts)) {i : Nat} (hi : i < l.length) :
    w.cell? ⟨g, i * 3, none⟩ = some (.int .i64 l[i].1) ∧ w.cell? ⟨g, i * 3 + 1, none⟩ = some (.int .i64 l[i].2.1) ∧ w.cell? ⟨g, i * 3 + 2, none⟩ = some (.int .i64 l[i].2.2) :=
  let ⟨a, b, c⟩ := tri_at l ts hi; ⟨h.get a, h.get b, h.get c⟩
theorem flatMap_set3 (l : List P3) (i : Nat) (hi : i < l.length) (p : P3) : (l.set i p).flatMap tri = (((l.flatMap tri).set (i * 3) (.int .i64 p.1)).set (i * 3 + 1) (.int .i64 p.2.1)).set (i * 3 + 2) (.int .i64 p.2.2) := by
  induction l generalizing i with
  | nil => simp at hi
  | cons q l ih =>
    cases i with
    | zero => simp [tri]
    | succ i =>
      have e : (i + 1) * 3 = i * 3 + 3 := by omega
      have hl : (tri q).length = 3 := rfl
      simp only [List.set_cons_succ, List.flatMap_cons, ih i (by simpa using hi), e]
      rw [List.set_append_right _ _ (by omega), List.set_append_right _ _ (by omega), List.set_append_right _ _ (by omega), hl,
        show i * 3 + 3 - 3 = i * 3 by omega, show i * 3 + 3 + 1 - 3 = i * 3 + 1 by omega, show i * 3 + 3 + 2 - 3 = i * 3 + 2 by omega]
theorem set_get_self {α : Type} (l : List α) (i : Nat) (u : α) (h : l[i]? = some u) : l.set i u = l := by
  apply List.ext_getElem?
  intro j
  rw [List.getElem?_set]
  split
  · rename_i e; subst e
    split
    · exact h.symm
    · rename_i hn; rw [List.getElem?_eq_none (by omega)] at h; cases h
  · rfl
/-- Only the middle of the i-th is written. -/
theorem Own.tri_set {w : World} {B g : Nat} {t : TypeId} {l : List P3} {ts : List Value} (h : Own w B g t (l.flatMap tri ++ ts)) {i : Nat} (hi : i < l.length) (x : Int) :
    Own (w.setCell ⟨g, i * 3 + 1, none⟩ (.int .i64 x)) B g t ((l.set i (l[i].1, x, l[i].2.2)).flatMap tri ++ ts) := by
  have hl := tri_len l
  have := h.set_ (i := i * 3 + 1) (by rw [List.length_append]; omega) (.int .i64 x)
  rw [List.set_append_left _ _ (by omega)] at this
  obtain ⟨h1, h2, h3⟩ := tri_get l i hi
  rw [flatMap_set3 l i hi, set_get_self _ _ _ h1, List.set_comm _ _ (by omega), set_get_self _ _ _ h3]
  exact this

end Go.Proofs.YtdeaefbjddodjaaGreatDoor
namespace Go.Proofs.YtdeaefbjddodjaaGreatDoor
open Go.RowKit Go.Maps

def mix {α : Type} (a b : List α) (k : Nat) : List α := a.take k ++ b.drop k
theorem mix_zero {α : Type} (a b : List α) : mix a b 0 = b := by simp [mix]
theorem mix_all {α : Type} (a b : List α) (k : Nat) (ha : a.length ≤ k) (hb : b.length ≤ k) : mix a b k = a := by simp [mix, List.take_of_length_le ha, List.drop_of_length_le hb]
theorem mix_len {α : Type} (a b : List α) (k : Nat) (h : a.length = b.length) (hk : k ≤ a.length) : (mix a b k).length = a.length := by simp [mix]; omega
theorem mix_set {α : Type} (a b : List α) (k : Nat) (h : a.length = b.length) (hk : k < a.length) : (mix a b k).set k a[k] = mix a b (k + 1) := by
  have hb : k < b.length := by omega
  have hl : (a.take k).length = k := by simp; omega
  rw [mix, List.set_append_right _ _ (by omega), hl, Nat.sub_self, List.drop_eq_getElem_cons hb, List.set_cons_zero, mix, take_snoc a k hk, List.append_assoc]
  rfl

theorem Own.tri_set3 {w : World} {B g : Nat} {t : TypeId} {l : List P3} {ts : List Value} (h : Own w B g t (l.flatMap tri ++ ts)) {i : Nat} (hi : i < l.length) (p : P3) :
    Own (((w.setCell ⟨g, i * 3, none⟩ (.int .i64 p.1)).setCell ⟨g, i * 3 + 1, none⟩ (.int .i64 p.2.1)).setCell ⟨g, i * 3 + 2, none⟩ (.int .i64 p.2.2)) B g t ((l.set i p).flatMap tri ++ ts) := by
  have hl := tri_len l
  have h1 := h.set_ (i := i * 3) (by rw [List.length_append]; omega) (.int .i64 p.1)
  have h2 := h1.set_ (i := i * 3 + 1) (by rw [List.length_set, List.length_append]; omega) (.int .i64 p.2.1)
  have h3 := h2.set_ (i := i * 3 + 2) (by rw [List.length_set, List.length_set, List.length_append]; omega) (.int .i64 p.2.2)
  rw [List.set_append_left _ _ (by omega), List.set_append_left _ _ (by rw [List.length_set]; omega), List.set_append_left _ _ (by rw [List.length_set, List.length_set]; omega), ← flatMap_set3 l i hi] at h3
  exact h3

end Go.Proofs.YtdeaefbjddodjaaGreatDoor
namespace Go.Proofs.YtdeaefbjddodjaaGreatDoor
open Go.RowKit Go.Maps

theorem quad_at (l : List T4) (ts : List Value) {i : Nat} (hi : i < l.length) :
    (l.flatMap quad ++ ts)[i * 4]? = some (.int .i64 l[i].id) ∧ (l.flatMap quad ++ ts)[i * 4 + 1]? = some (.string l[i].name) ∧ (l.flatMap quad ++ ts)[i * 4 + 2]? = some (.int .i64 l[i].limit) ∧ (l.flatMap quad ++ ts)[i * 4 + 3]? = some (.int .i64 l[i].hor) := by
  obtain ⟨h1, h2, h3, h4⟩ := quad_get l i hi
  have hl := quad_len l
  exact ⟨by rw [List.getElem?_append_left (by omega)]; exact h1, by rw [List.getElem?_append_left (by omega)]; exact h2, by rw [List.getElem?_append_left (by omega)]; exact h3, by rw [List.getElem?_append_left (by omega)]; exact h4⟩
theorem Own.quad_ {w : World} {B g : Nat} {t : TypeId} {l : List T4} {ts : List Value} (h : Own w B g t (l.flatMap quad ++ ts)) {i : Nat} (hi : i < l.length) :
    w.cell? ⟨g, i * 4, none⟩ = some (.int .i64 l[i].id) ∧ w.cell? ⟨g, i * 4 + 1, none⟩ = some (.string l[i].name) ∧ w.cell? ⟨g, i * 4 + 2, none⟩ = some (.int .i64 l[i].limit) ∧ w.cell? ⟨g, i * 4 + 3, none⟩ = some (.int .i64 l[i].hor) :=
  let ⟨a, b, c, d⟩ := quad_at l ts hi; ⟨h.get a, h.get b, h.get c, h.get d⟩
theorem flatMap_set4 (l : List T4) (i : Nat) (hi : i < l.length) (p : T4) :
    (l.set i p).flatMap quad = ((((l.flatMap quad).set (i * 4) (.int .i64 p.id)).set (i * 4 + 1) (.string p.name)).set (i * 4 + 2) (.int .i64 p.limit)).set (i * 4 + 3) (.int .i64 p.hor) := by
  induction l generalizing i with
  | nil => simp at hi
  | cons q l ih =>
    cases i with
    | zero => simp [quad]
    | succ i =>
      have e : (i + 1) * 4 = i * 4 + 4 := by omega
      have hl : (quad q).length = 4 := rfl
      simp only [List.set_cons_succ, List.flatMap_cons, ih i (by simpa using hi), e]
      rw [List.set_append_right _ _ (by omega), List.set_append_right _ _ (by omega), List.set_append_right _ _ (by omega), List.set_append_right _ _ (by omega), hl,
        show i * 4 + 4 - 4 = i * 4 by omega, show i * 4 + 4 + 1 - 4 = i * 4 + 1 by omega, show i * 4 + 4 + 2 - 4 = i * 4 + 2 by omega, show i * 4 + 4 + 3 - 4 = i * 4 + 3 by omega]
theorem Own.quad_set4 {w : World} {B g : Nat} {t : TypeId} {l : List T4} {ts : List Value} (h : Own w B g t (l.flatMap quad ++ ts)) {i : Nat} (hi : i < l.length) (p : T4) :
    Own ((((w.setCell ⟨g, i * 4, none⟩ (.int .i64 p.id)).setCell ⟨g, i * 4 + 1, none⟩ (.string p.name)).setCell ⟨g, i * 4 + 2, none⟩ (.int .i64 p.limit)).setCell ⟨g, i * 4 + 3, none⟩ (.int .i64 p.hor)) B g t ((l.set i p).flatMap quad ++ ts) := by
  have hl := quad_len l
  have h1 := h.set_ (i := i * 4) (by rw [List.length_append]; omega) (.int .i64 p.id)
  have h2 := h1.set_ (i := i * 4 + 1) (by rw [List.length_set, List.length_append]; omega) (.string p.name)
  have h3 := h2.set_ (i := i * 4 + 2) (by rw [List.length_set, List.length_set, List.length_append]; omega) (.int .i64 p.limit)
  have h4 := h3.set_ (i := i * 4 + 3) (by rw [List.length_set, List.length_set, List.length_set, List.length_append]; omega) (.int .i64 p.hor)
  rw [List.set_append_left _ _ (by omega), List.set_append_left _ _ (by rw [List.length_set]; omega), List.set_append_left _ _ (by rw [List.length_set, List.length_set]; omega),
    List.set_append_left _ _ (by rw [List.length_set, List.length_set, List.length_set]; omega), ← flatMap_set4 l i hi] at h4
  exact h4
/-- Only the number of the i-th is written. -/
theorem Own.quad_set {w : World} {B g : Nat} {t : TypeId} {l : List T4} {ts : List Value} (h : Own w B g t (l.flatMap quad ++ ts)) {i : Nat} (hi : i < l.length) (x : Int) :
    Own (w.setCell ⟨g, i * 4, none⟩ (.int .i64 x)) B g t ((l.set i { l[i] with id := x }).flatMap quad ++ ts) := by
  have hl := quad_len l
  have := h.set_ (i := i * 4) (by rw [List.length_append]; omega) (.int .i64 x)
  rw [List.set_append_left _ _ (by omega)] at this
  obtain ⟨h1, h2, h3, h4⟩ := quad_get l i hi
  rw [flatMap_set4 l i hi]
  rw [set_get_self _ (i * 4 + 1) _ (by rw [List.getElem?_set_ne (by omega)]; exact h2), set_get_self _ (i * 4 + 2) _ (by rw [List.getElem?_set_ne (by omega)]; exact h3),
    set_get_self _ (i * 4 + 3) _ (by rw [List.getElem?_set_ne (by omega)]; exact h4)]
  exact this

abbrev catV (nid : Int) (s : Value) : Value := .agg #[.int .i64 nid, s]

end Go.Proofs.YtdeaefbjddodjaaGreatDoor
namespace Go.Proofs.YtdeaefbjddodjaaGreatDoor
open Go.RowKit Go.Maps

set_option maxRecDepth 100000 in
set_option maxHeartbeats 4000000 in
theorem sameMan_eq (id ns nx mk cl : Int) (A A' B B' : Option Addr) (c c' d d' : Nat) (segs : List Int) (prods : List P3) (w : World) (hA : Rd w w.heap.size A (segs.map (.int .i64))) (hA' : Rd w w.heap.size A' (segs.map (.int .i64)))
    (hB : Rd w w.heap.size B (prods.flatMap tri)) (hB' : Rd w w.heap.size B' (prods.flatMap tri)) (hmx : segs.length ≤ maxLen) (hmy : prods.length ≤ maxLen) :
    Calls Tryz.prog 11 #[manV id ns nx mk cl (.slice A segs.length c) (.slice B prods.length d), manV id ns nx mk cl (.slice A' segs.length c') (.slice B' prods.length d')] w fun e w' =>
      e = .returned (.bool true) ∧ Below w.heap.size w w' := by
  unfold maxLen at hmx hmy
  go_enter Tryz.func11, Tryz.ntmps11
  go_wp2
  go_loopw [5] (fun i wr => ∃ (k : Nat), k ≤ segs.length ∧ i = .int .i64 k ∧ Below w.heap.size w wr ∧
      Box wr w.heap.size 25 #[.int .i64 id, .int .i64 ns, .int .i64 nx, .int .i64 mk, .int .i64 cl, .slice A segs.length c, .slice B prods.length d] ∧
      Box wr (w.heap.size + 1) 25 #[.int .i64 id, .int .i64 ns, .int .i64 nx, .int .i64 mk, .int .i64 cl, .slice A' segs.length c', .slice B' prods.length d'])
    (fun i _ => segs.length - (intOf i).toNat)
  case atStart =>
    refine ⟨0, Nat.zero_le _, rfl, ((Below.refl _ _).alloc (Nat.le_refl _) _).alloc (by simp) _, (Box.new w _ _).alloc _, ?_⟩
    simpa using Box.new (w.alloc (.cells #[.int .i64 id, .int .i64 ns, .int .i64 nx, .int .i64 mk, .int .i64 cl, .slice A segs.length c, .slice B prods.length d] 25)) 25 #[.int .i64 id, .int .i64 ns, .int .i64 nx, .int .i64 mk, .int .i64 cl, .slice A' segs.length c', .slice B' prods.length d']
  case round =>
    obtain ⟨k, hk, rfl, hb, hX, hY⟩ := hrel
    have hcx := hX.cell
    have hcy := hY.cell
    by_cases hlt : k < segs.length
    · have hk0 : (0 : Int) ≤ k := by omega
      have hk1 : (k : Int) < segs.length := by omega
      obtain ⟨ad, rfl, had, hca⟩ := (hA.below hb).int hlt
      obtain ⟨ad', rfl, had', hca'⟩ := (hA'.below hb).int hlt
      have H := Lib.hid (And.intro hb (And.intro hX hY))
      clear hb hX hY
      go_wp2
      go_quiet (fail)
      go_wp2
      go_roundw
      case rel => exact ⟨k + 1, by omega, by go_num, below_drewN H.out.1 _, H.out.2.1.drewN _, H.out.2.2.drewN _⟩
      case measure => simp [intOf]; omega
    · go_wp2
      go_loopw [6] (fun i wr => ∃ (k : Nat), k ≤ prods.length ∧ i = .int .i64 k ∧ Below w.heap.size w wr ∧
          Box wr w.heap.size 25 #[.int .i64 id, .int .i64 ns, .int .i64 nx, .int .i64 mk, .int .i64 cl, .slice A segs.length c, .slice B prods.length d] ∧
          Box wr (w.heap.size + 1) 25 #[.int .i64 id, .int .i64 ns, .int .i64 nx, .int .i64 mk, .int .i64 cl, .slice A' segs.length c', .slice B' prods.length d'])
        (fun i _ => prods.length - (intOf i).toNat)
      case atStart => exact ⟨0, Nat.zero_le _, rfl, hb, hX, hY⟩
      case round =>
        obtain ⟨m, hm, rfl, hb, hX, hY⟩ := hrel
        have hcx := hX.cell
        have hcy := hY.cell
        by_cases hlt : m < prods.length
        · have hk0 : (0 : Int) ≤ m := by omega
          have hk1 : (m : Int) < prods.length := by omega
          obtain ⟨ad, rfl, had, hca, hca2, hca3⟩ := (hB.below hb).tri_ hlt
          obtain ⟨ad', rfl, had', hcb, hcb2, hcb3⟩ := (hB'.below hb).tri_ hlt
          have H := Lib.hid (And.intro hb (And.intro hX hY))
          clear hb hX hY
          go_wp2
          go_quiet (fail)
          go_wp2
          go_roundw
          case rel => exact ⟨m + 1, by omega, by go_num, below_drewN H.out.1 _, H.out.2.1.drewN _, H.out.2.2.drewN _⟩
          case measure => simp [intOf]; omega
        · go_wp2
          go_ret
          exact ⟨rfl, hb⟩

set_option maxRecDepth 100000 in
set_option maxHeartbeats 4000000 in
theorem sameCat_eq (nid : Int) (A A' : Option Addr) (c c' : Nat) (l : List T4) (w : World) (hA : Rd w w.heap.size A (l.flatMap quad)) (hA' : Rd w w.heap.size A' (l.flatMap quad)) (hmx : l.length ≤ maxLen) :
    Calls Tryz.prog 12 #[catV nid (.slice A l.length c), catV nid (.slice A' l.length c')] w fun e w' =>
      e = .returned (.bool true) ∧ Below w.heap.size w w' := by
  unfold maxLen at hmx
  go_enter Tryz.func12, Tryz.ntmps12
  go_wp2
  go_loopw [5] (fun i wr => ∃ (k : Nat), k ≤ l.length ∧ i = .int .i64 k ∧ Below w.heap.size w wr ∧
      Box wr w.heap.size 28 #[.int .i64 nid, .slice A l.length c] ∧ Box wr (w.heap.size + 1) 28 #[.int .i64 nid, .slice A' l.length c'])
    (fun i _ => l.length - (intOf i).toNat)
  case atStart =>
    refine ⟨0, Nat.zero_le _, rfl, ((Below.refl _ _).alloc (Nat.le_refl _) _).alloc (by simp) _, (Box.new w _ _).alloc _, ?_⟩
    simpa using Box.new (w.alloc (.cells #[.int .i64 nid, .slice A l.length c] 28)) 28 #[.int .i64 nid, .slice A' l.length c']
  case round =>
    obtain ⟨k, hk, rfl, hb, hX, hY⟩ := hrel
    have hcx := hX.cell
    have hcy := hY.cell
    by_cases hlt : k < l.length
    · have hk0 : (0 : Int) ≤ k := by omega
      have hk1 : (k : Int) < l.length := by omega
      obtain ⟨ad, rfl, had, hca, hca2, hca3, hca4⟩ := (hA.below hb).quad_ hlt
      obtain ⟨ad', rfl, had', hcb, hcb2, hcb3, hcb4⟩ := (hA'.below hb).quad_ hlt
      have H := Lib.hid (And.intro hb (And.intro hX hY))
      clear hb hX hY
      go_wp2
      go_quiet (fail)
      go_wp2
      go_roundw
      case rel => exact ⟨k + 1, by omega, by go_num, below_drewN H.out.1 _, H.out.2.1.drewN _, H.out.2.2.drewN _⟩
      case measure => simp [intOf]; omega
    · go_wp2
      go_ret
      exact ⟨rfl, hb⟩
end Go.Proofs.YtdeaefbjddodjaaGreatDoor
namespace Go.Proofs.YtdeaefbjddodjaaGreatDoor
open Go.RowKit Go.Maps

theorem Own.rd_pre {w : World} {B g : Nat} {t : TypeId} {xs ts : List Value} (h : Own w B g t (xs ++ ts)) : Rd w w.heap.size (some ⟨g, 0, none⟩) xs :=
  h.rd h.lt fun j u hj => by rw [List.getElem?_append_left (List.getElem?_eq_some_iff.1 hj).1]; exact hj
theorem Own.tail {w : World} {B g : Nat} {t : TypeId} {xs ts : List Value} (h : Own w B g t (xs ++ ts)) {n : Nat} (hn : xs.length = n) {u : Value} (hu : ts[0]? = some u) : w.cell? ⟨g, n, none⟩ = some u :=
  h.get (by rw [List.getElem?_append_right (by omega), hn, Nat.sub_self]; exact hu)

end Go.Proofs.YtdeaefbjddodjaaGreatDoor
namespace Go.Proofs.YtdeaefbjddodjaaGreatDoor
open Go.RowKit Go.Maps

/-- What ManifestChecks knows between its calls: its four variables, its three rows, that nothing old has changed. -/
structure MS (w : World) (M C N D : Array Value) (bn bd g h k : Nat) (ss : List Int) (ps : List P3) (ts : List T4) (W : World) : Prop where
  m : Box W w.heap.size 25 M
  c : Box W (w.heap.size + 1) 28 C
  n : Box W bn 25 N
  d : Box W bd 28 D
  og : Own W (w.heap.size + 2) g 3 (ss.map (.int .i64) ++ [.int .i64 (-77)])
  oh : Own W (w.heap.size + 2) h 55 (ps.flatMap tri ++ [.int .i64 (-77), .int .i64 0, .int .i64 0])
  ok : Own W (w.heap.size + 2) k 59 (ts.flatMap quad ++ [.int .i64 (-77), .string ByteArray.empty, .int .i64 0, .int .i64 0])
  below : Below w.heap.size w W
  far : (g ≠ h ∧ g ≠ k ∧ h ≠ k) ∧ (bn ≠ g ∧ bn ≠ h ∧ bn ≠ k) ∧ (bd ≠ g ∧ bd ≠ h ∧ bd ≠ k)
section
variable {w : World} {M C N D : Array Value} {bn bd g h k : Nat} {ss ss' : List Int} {ps ps' : List P3} {ts ts' : List T4} {W W' : World}
theorem MS.next (s : MS w M C N D bn bd g h k ss ps ts W) (hb : Below W.heap.size W W') : MS w M C N D bn bd g h k ss ps ts W' :=
  ⟨s.m.below hb s.m.lt, s.c.below hb s.c.lt, s.n.below hb s.n.lt, s.d.below hb s.d.lt, s.og.below hb s.og.lt, s.oh.below hb s.oh.lt, s.ok.below hb s.ok.lt, s.below.trans (hb.mono s.below.size), s.far⟩
theorem MS.man (s : MS w M C N D bn bd g h k ss ps ts W) (hc : Chg (fun x => x = g ∨ x = h) W W') (og : Own W' (w.heap.size + 2) g 3 (ss'.map (.int .i64) ++ [.int .i64 (-77)]))
    (oh : Own W' (w.heap.size + 2) h 55 (ps'.flatMap tri ++ [.int .i64 (-77), .int .i64 0, .int .i64 0])) : MS w M C N D bn bd g h k ss' ps' ts W' := by
  obtain ⟨⟨f1, f2, f3⟩, ⟨f4, f5, f6⟩, f7, f8, f9⟩ := s.far
  have g1 := og.1
  have g2 := oh.1
  exact ⟨s.m.chg hc (by omega), s.c.chg hc (by omega), s.n.chg hc (by omega), s.d.chg hc (by omega), og, oh, s.ok.chg hc (by omega),
    s.below.trans (hc.below s.below.size (by intro x hx; omega)), s.far⟩
theorem MS.cat (s : MS w M C N D bn bd g h k ss ps ts W) (hc : Chg (fun x => x = k) W W') (ok : Own W' (w.heap.size + 2) k 59 (ts'.flatMap quad ++ [.int .i64 (-77), .string ByteArray.empty, .int .i64 0, .int .i64 0])) :
    MS w M C N D bn bd g h k ss ps ts' W' := by
  obtain ⟨⟨f1, f2, f3⟩, ⟨f4, f5, f6⟩, f7, f8, f9⟩ := s.far
  have g1 := ok.1
  exact ⟨s.m.chg hc (by omega), s.c.chg hc (by omega), s.n.chg hc (by omega), s.d.chg hc (by omega), s.og.chg hc (by omega), s.oh.chg hc (by omega), ok,
    s.below.trans (hc.below s.below.size (by intro x hx; omega)), s.far⟩
end

theorem check_len (id ns nx mk cl : Int) (A B : Option Addr) (c d n m : Nat) (segs : List Int) (prods : List P3) (w : World) (hn : segs.length = n) (hm : prods.length = m) (hA : Rd w w.heap.size A (segs.map (.int .i64))) (hB : Rd w w.heap.size B (prods.flatMap tri)) (hw : ∀ s ∈ segs, (Lit.int .i64 s).wf = true) :
    Calls Tryz.prog 7 #[manV id ns nx mk cl (.slice A n c) (.slice B m d)] w fun e w' => (∃ x, e = .returned (.int .i64 x)) ∧ Below w.heap.size w w' := by
  subst hn hm
  exact (check_any id ns nx mk cl A B c d segs prods w hA hB hw).mono fun e w' ⟨h, hb⟩ => ⟨⟨_, h⟩, hb⟩
theorem checkCat_len (nid : Int) (A : Option Addr) (c n : Nat) (l : List T4) (w : World) (hn : l.length = n) (hA : Rd w w.heap.size A (l.flatMap quad)) (hw : ∀ t ∈ l, (Lit.int .i64 t.id).wf = true ∧ t.name.size ≤ maxLen) :
    Calls Tryz.prog 8 #[catV nid (.slice A n c)] w fun e w' => (∃ x, e = .returned (.int .i64 x)) ∧ Below w.heap.size w w' := by
  subst hn
  exact (checkCat_any nid A c l w hA hw).mono fun e w' ⟨h, hb⟩ => ⟨⟨_, h⟩, hb⟩

end Go.Proofs.YtdeaefbjddodjaaGreatDoor
