import Derived.Test.YtbmbgkgjlnookaaDoorOr3
/- ManifestOrphans: the document's Orphans. -/
namespace Go.Proofs.YtbmbgkgjlnookaaDoor
open Go.RowKit Go.Maps

set_option maxRecDepth 100000 in
theorem in_any (A : Option Addr) (n c : Nat) (l : List Int) (x : Int) (w : World) (hA : Rd w w.heap.size A (l.map (.int .i64))) (hn : l.length = n) (hmx : n ≤ 1048576) :
    Calls Tryd.prog 35 #[.slice A n c, .int .i64 x] w fun e w' => e = .returned (.bool (decide (x ∈ l))) ∧ w' = w := by
  have HA := Lib.hid (And.intro hA hn)
  clear hA hn
  go_enter Tryd.func35, Tryd.ntmps35
  go_wp2
  go_loop [5] (fun i => ∃ k : Nat, k ≤ n ∧ i = .int .i64 k ∧ x ∉ l.take k) (fun i => n - (intOf i).toNat)
  case atStart => exact ⟨0, Nat.zero_le _, rfl, by simp⟩
  case round =>
    obtain ⟨k, hk, rfl, hno⟩ := hrel
    by_cases hlt : k < n
    · have hkl : k < l.length := by rw [HA.out.2]; exact hlt
      obtain ⟨ad, rfl, hadb, hcell⟩ := HA.out.1.int hkl
      have hk0 : (0 : Int) ≤ k := by omega
      have hk1 : (k : Int) < n := by omega
      by_cases hx : x = l[k]
      · have R := Lib.hid (show true = decide (x ∈ l) from (decide_eq_true (by rw [hx]; exact List.getElem_mem hkl)).symm)
        rw [← hx] at hcell
        clear hx hno
        go_wp2
        all_goals go_ret
        all_goals exact ⟨ret_bool R.out, rfl⟩
      · have R := Lib.hid (show x ∉ l.take (k + 1) from fun e => ((take_mem hkl x).1 e).elim hx hno)
        have hb : (l[k] == x) = false := by simpa using fun e => hx e.symm
        have hb2 : ¬ l[k] = x := fun e => hx e.symm
        clear hx hno
        generalize l[k] = y at hcell hb hb2
        go_wp2
        go_round
        case rel => exact ⟨k + 1, by omega, by go_num, R.out⟩
        case measure => simp [intOf]; omega
    · have R := Lib.hid (show false = decide (x ∈ l) from (decide_eq_false (by rw [← List.take_of_length_le (show l.length ≤ k by rw [HA.out.2]; omega)]; exact hno)).symm)
      have hkn : k = n := by omega
      subst hkn
      go_wp2
      go_ret
      exact ⟨ret_bool R.out, rfl⟩
theorem rd_newB (W : World) (t : TypeId) (xs : List Value) (b : Nat) (h : W.heap.size = b) : Rd (W.alloc (.cells xs.toArray t)) (b + 1) (some ⟨b, 0, none⟩) xs := by
  subst h
  exact rd_newS W t xs
theorem mark_none {l : List Int} {x : Int} (h : x ∉ l) : markP l x = 0 := by
  unfold markP markG
  rw [if_neg (fun e => h (List.mem_of_getLast? e.2)), if_neg (by rw [List.take_length]; exact h)]
theorem mark_last {l : List Int} {x : Int} (h : l.getLast? = some x) : markP l x = 2 := by
  unfold markP markG
  rw [if_pos ⟨rfl, h⟩]
theorem mark_one {l : List Int} {x : Int} (h : x ∈ l) (hl : l.getLast? ≠ some x) : markP l x = 1 := by
  unfold markP markG
  rw [if_neg (fun e => hl e.2), if_pos (by rw [List.take_length]; exact h)]
set_option maxRecDepth 100000 in
set_option maxHeartbeats 8000000 in
theorem orphansR_any (A : Option Addr) (n cc : Nat) (names : List ByteArray) (id ns nx mk cl : Int) (A2 : Option Addr) (c2 : Nat) (segs : List Int) (pv : Value) (w : World)
    (hA : Rd w w.heap.size A (names.map Value.string)) (hn : names.length = n) (hmx : n ≤ 1048576) (hz : ∀ s ∈ names, s.size ≤ 1048576)
    (hS : Rd w w.heap.size A2 (segs.map (.int .i64))) (hsl : segs.length ≤ 1048576) :
    Calls Tryd.prog 18 #[.slice A n cc, manV id ns nx mk cl (.slice A2 segs.length c2) pv] w fun e w' => ∃ v, e = .returned v ∧ SRow w w' v (names.filter fun s => orphP id segs (parseB s)) := by
  obtain ⟨i1, hi1, hz1, hs1, hy1⟩ := info_parts info_str
  have HA := Lib.hid (And.intro hA (And.intro hn hz))
  have HS := Lib.hid hS
  have H0 := Lib.hid (SRow.nil (w.alloc (.cells #[.int .i64 id, .int .i64 ns, .int .i64 nx, .int .i64 mk, .int .i64 cl, .slice A2 segs.length c2, pv] 31)))
  clear hA hn hz hS
  go_enter Tryd.func18, Tryd.ntmps18
  go_wp2
  go_loopw [5, 6] (fun v i wr => ∃ k0 : Nat, k0 ≤ n ∧ i = .int .i64 k0 ∧ SRow (w.alloc (.cells #[.int .i64 id, .int .i64 ns, .int .i64 nx, .int .i64 mk, .int .i64 cl, .slice A2 segs.length c2, pv] 31)) wr v ((names.take k0).filter fun s => orphP id segs (parseB s))) (fun _ i _ => n - (intOf i).toNat)
  case atStart => exact ⟨0, Nat.zero_le _, rfl, H0.out⟩
  case round =>
    clear H0
    obtain ⟨k0, hk, rfl, hR⟩ := hrel
    by_cases hlt : k0 < n
    · have hkl : k0 < names.length := by rw [HA.out.2.1]; exact hlt
      obtain ⟨ad, rfl, hadb, p0⟩ := (HA.out.1.below ((Below.al w (.cells #[.int .i64 id, .int .i64 ns, .int .i64 nx, .int .i64 mk, .int .i64 cl, .slice A2 segs.length c2, pv] 31)).trans (hR.2.mono (by simp)))).str hkl
      have HT := Lib.hid (pfilter_snoc (pr := orphP id segs) hkl)
      have hzk := HA.out.2.2 _ (List.getElem_mem hkl)
      generalize names[k0] = nm at p0 HT hzk
      have hlm := filter_lenS (f := fun s => orphP id segs (parseB s)) (l := names) (k := k0)
      have DS := Lib.hid hR
      have C1 := Lib.hid (fun W => parseR_b nm W hzk)
      have hok := parseB_ok nm
      generalize parseB nm = x at C1 HT hok
      have hk0 : (0 : Int) ≤ k0 := by omega
      have hk1 : (k0 : Int) < n := by omega
      have hbk : (ad.add k0).block < (w.alloc (.cells #[.int .i64 id, .int .i64 ns, .int .i64 nx, .int .i64 mk, .int .i64 cl, .slice A2 segs.length c2, pv] 31)).heap.size := by rw [add_block]; simp; omega
      have P0 := Lib.hid (fun W (hb : Below (w.alloc (.cells #[.int .i64 id, .int .i64 ns, .int .i64 nx, .int .i64 mk, .int .i64 cl, .slice A2 segs.length c2, pv] 31)).heap.size (w.alloc (.cells #[.int .i64 id, .int .i64 ns, .int .i64 nx, .int .i64 mk, .int .i64 cl, .slice A2 segs.length c2, pv] 31)) W) => show W.cell? (ad.add k0) = some (.string nm) from (hb.cell hbk).trans ((hR.2.cell hbk).symm.trans p0))
      clear hR hkl hzk hbk
      obtain ⟨k, i, s, t⟩ := x
      have hq0 := hok.k0
      have hq4 := hok.k4
      simp only at hq0 hq4
      simp only [FN.v] at C1
      clear hok
      by_cases h0 : k = 0
      · subst h0
        have HX := Lib.hid (HT.out.trans (if_neg (fun e => by rw [show orphP id segs ⟨0, i, s, t⟩ = false by unfold orphP; simp] at e; cases e)))
        clear HT
        clear hq0 hq4
        go_wp2_with (first
          | (go_at_call 8
             refine (C1.out _).mono ?_
             rintro e w1 ⟨rfl, hb1⟩
             have d1 := (DS.out.next hb1).next (Below.al w1 (.cells #[.int .i64 0, .int .i64 i, .int .i64 s, .bool t] 23))
             have hm1 := (Box.new w 31 #[.int .i64 id, .int .i64 ns, .int .i64 nx, .int .i64 mk, .int .i64 cl, .slice A2 segs.length c2, pv]).below d1.2 (by simp)
             have x1 := hm1.cell
             have y1 : w.heap.size < w1.heap.size := by have := (DS.out.next hb1).2.size; simp at this; omega
             have hf1 := Box.new w1 23 #[.int .i64 0, .int .i64 i, .int .i64 s, .bool t]
             have x2 := hf1.cell
             clear p0
             have p0 := P0.out _ d1.2
             have D1 := Lib.hid (And.intro d1 (And.intro hm1 hf1))
             clear hb1 d1 hm1 hf1))
        go_roundw
        case rel => exact ⟨k0 + 1, by omega, by go_num, by rw [HX.out]; exact D1.out.1⟩
        case measure => simp [intOf]; omega
      by_cases h4 : k = 4
      · subst h4
        have HX := Lib.hid (HT.out.trans (if_neg (fun e => by rw [show orphP id segs ⟨4, i, s, t⟩ = false by unfold orphP; simp] at e; cases e)))
        clear HT
        clear hq0 hq4 h0
        go_wp2_with (first
          | (go_at_call 8
             refine (C1.out _).mono ?_
             rintro e w1 ⟨rfl, hb1⟩
             have d1 := (DS.out.next hb1).next (Below.al w1 (.cells #[.int .i64 4, .int .i64 i, .int .i64 s, .bool t] 23))
             have hm1 := (Box.new w 31 #[.int .i64 id, .int .i64 ns, .int .i64 nx, .int .i64 mk, .int .i64 cl, .slice A2 segs.length c2, pv]).below d1.2 (by simp)
             have x1 := hm1.cell
             have y1 : w.heap.size < w1.heap.size := by have := (DS.out.next hb1).2.size; simp at this; omega
             have hf1 := Box.new w1 23 #[.int .i64 4, .int .i64 i, .int .i64 s, .bool t]
             have x2 := hf1.cell
             clear p0
             have p0 := P0.out _ d1.2
             have D1 := Lib.hid (And.intro d1 (And.intro hm1 hf1))
             clear hb1 d1 hm1 hf1))
        go_roundw
        case rel => exact ⟨k0 + 1, by omega, by go_num, by rw [HX.out]; exact D1.out.1⟩
        case measure => simp [intOf]; omega
      have b0 : (k == 0) = false := by simpa using h0
      have b4 : (k == 4) = false := by simpa using h4
      by_cases hi : i = id
      case neg =>
        have HX := Lib.hid (HT.out.trans (if_neg (fun e => by rw [show orphP id segs ⟨k, i, s, t⟩ = false by unfold orphP; simp [hi]] at e; cases e)))
        clear HT
        clear hq0 hq4
        have bi : (i != id) = true := by simpa using hi
        go_wp2_with (first
          | (go_at_call 8
             refine (C1.out _).mono ?_
             rintro e w1 ⟨rfl, hb1⟩
             have d1 := (DS.out.next hb1).next (Below.al w1 (.cells #[.int .i64 k, .int .i64 i, .int .i64 s, .bool t] 23))
             have hm1 := (Box.new w 31 #[.int .i64 id, .int .i64 ns, .int .i64 nx, .int .i64 mk, .int .i64 cl, .slice A2 segs.length c2, pv]).below d1.2 (by simp)
             have x1 := hm1.cell
             have y1 : w.heap.size < w1.heap.size := by have := (DS.out.next hb1).2.size; simp at this; omega
             have hf1 := Box.new w1 23 #[.int .i64 k, .int .i64 i, .int .i64 s, .bool t]
             have x2 := hf1.cell
             clear p0
             have p0 := P0.out _ d1.2
             have D1 := Lib.hid (And.intro d1 (And.intro hm1 hf1))
             clear hb1 d1 hm1 hf1))
        go_roundw
        case rel => exact ⟨k0 + 1, by omega, by go_num, by rw [HX.out]; exact D1.out.1⟩
        case measure => simp [intOf]; omega
      subst hi
      have bi : (i != i) = false := by simp
      rcases (show k = 1 ∨ k = 2 ∨ k = 3 by omega) with rfl | rfl | rfl
      · clear hq0 hq4 h0 h4 b0 b4
        by_cases hin : s ∈ segs
        · have IN := Lib.hid (show decide (s ∈ segs) = true from decide_eq_true hin)
          cases t with
          | true =>
            have HX := Lib.hid (HT.out.trans (if_pos (by unfold orphP; simp)))
            clear HT
            clear hin
            go_wp2_with (first
              | (go_at_call 8
                 refine (C1.out _).mono ?_
                 rintro e w1 ⟨rfl, hb1⟩
                 have d1 := (DS.out.next hb1).next (Below.al w1 (.cells #[.int .i64 1, .int .i64 i, .int .i64 s, .bool true] 23))
                 have hm1 := (Box.new w 31 #[.int .i64 i, .int .i64 ns, .int .i64 nx, .int .i64 mk, .int .i64 cl, .slice A2 segs.length c2, pv]).below d1.2 (by simp)
                 have x1 := hm1.cell
                 have y1 : w.heap.size < w1.heap.size := by have := (DS.out.next hb1).2.size; simp at this; omega
                 have hf1 := Box.new w1 23 #[.int .i64 1, .int .i64 i, .int .i64 s, .bool true]
                 have x2 := hf1.cell
                 clear p0
                 have p0 := P0.out _ d1.2
                 have D1 := Lib.hid (And.intro d1 (And.intro hm1 hf1))
                 clear hb1 d1 hm1 hf1)
              | (go_at_call 35
                 refine (in_any A2 segs.length c2 segs s _ ((HS.out.below ((Below.al w (.cells #[.int .i64 i, .int .i64 ns, .int .i64 nx, .int .i64 mk, .int .i64 cl, .slice A2 segs.length c2, pv] 31)).trans (D1.out.1.2.mono (by simp)))).mono (by have := D1.out.1.2.size; simp at this ⊢; omega)) rfl hsl).mono ?_
                 rintro e w2 ⟨rfl, hw2⟩
                 rw [hw2, IN.out]
                 clear hw2)
              | (at_builtin
                 have D3 := D1.out.1.next (Below.al (w1.alloc (.cells #[.int .i64 1, .int .i64 i, .int .i64 s, .bool true] 23)) (.cells #[.string nm] 9))
                 refine wpList_app _ rfl (.tmp 68) (.tmp 73) _ rfl (w.alloc (.cells #[.int .i64 i, .int .i64 ns, .int .i64 nx, .int .i64 mk, .int .i64 cl, .slice A2 segs.length c2, pv] 31)).heap.size 9 i1 _ 1 16 Tryd.underlying27 hi1 hz1 hs1 hy1 rfl (by decide) _ _ _ rfl D3.1 _ _ 1 1 [.string nm] rfl rfl (rd_newB ((w1.alloc (.cells #[.int .i64 1, .int .i64 i, .int .i64 s, .bool true] 23))) _ _ _ (by simp)) (by intro u hu; simp at hu; subst hu; rfl) (by unfold maxLen; omega) (by omega) D3.2.size ?_
                 intro v' w4 hown hg4 hor
                 have HG := Lib.hid (D3.grow hown hg4)
                 clear hown hg4 hor D3))
            go_roundw
            case rel => exact ⟨k0 + 1, by omega, by go_num, by rw [HX.out]; exact HG.out⟩
            case measure => simp [intOf]; omega
          | false =>
            have hmk : markP segs s ≠ 0 := by
              by_cases hl : segs.getLast? = some s
              · rw [mark_last hl]; decide
              · rw [mark_one hin hl]; decide
            have HX := Lib.hid (HT.out.trans (if_neg (fun e => by rw [show orphP i segs ⟨1, i, s, false⟩ = false by unfold orphP; simp [hmk]] at e; cases e)))
            clear HT
            clear hmk
            clear hin
            go_wp2_with (first
              | (go_at_call 8
                 refine (C1.out _).mono ?_
                 rintro e w1 ⟨rfl, hb1⟩
                 have d1 := (DS.out.next hb1).next (Below.al w1 (.cells #[.int .i64 1, .int .i64 i, .int .i64 s, .bool false] 23))
                 have hm1 := (Box.new w 31 #[.int .i64 i, .int .i64 ns, .int .i64 nx, .int .i64 mk, .int .i64 cl, .slice A2 segs.length c2, pv]).below d1.2 (by simp)
                 have x1 := hm1.cell
                 have y1 : w.heap.size < w1.heap.size := by have := (DS.out.next hb1).2.size; simp at this; omega
                 have hf1 := Box.new w1 23 #[.int .i64 1, .int .i64 i, .int .i64 s, .bool false]
                 have x2 := hf1.cell
                 clear p0
                 have p0 := P0.out _ d1.2
                 have D1 := Lib.hid (And.intro d1 (And.intro hm1 hf1))
                 clear hb1 d1 hm1 hf1)
              | (go_at_call 35
                 refine (in_any A2 segs.length c2 segs s _ ((HS.out.below ((Below.al w (.cells #[.int .i64 i, .int .i64 ns, .int .i64 nx, .int .i64 mk, .int .i64 cl, .slice A2 segs.length c2, pv] 31)).trans (D1.out.1.2.mono (by simp)))).mono (by have := D1.out.1.2.size; simp at this ⊢; omega)) rfl hsl).mono ?_
                 rintro e w2 ⟨rfl, hw2⟩
                 rw [hw2, IN.out]
                 clear hw2))
            go_roundw
            case rel => exact ⟨k0 + 1, by omega, by go_num, by rw [HX.out]; exact D1.out.1⟩
            case measure => simp [intOf]; omega
        · have IN := Lib.hid (show decide (s ∈ segs) = false from decide_eq_false hin)
          cases t with
          | true =>
            have HX := Lib.hid (HT.out.trans (if_pos (by unfold orphP; simp)))
            clear HT
            clear hin
            go_wp2_with (first
              | (go_at_call 8
                 refine (C1.out _).mono ?_
                 rintro e w1 ⟨rfl, hb1⟩
                 have d1 := (DS.out.next hb1).next (Below.al w1 (.cells #[.int .i64 1, .int .i64 i, .int .i64 s, .bool true] 23))
                 have hm1 := (Box.new w 31 #[.int .i64 i, .int .i64 ns, .int .i64 nx, .int .i64 mk, .int .i64 cl, .slice A2 segs.length c2, pv]).below d1.2 (by simp)
                 have x1 := hm1.cell
                 have y1 : w.heap.size < w1.heap.size := by have := (DS.out.next hb1).2.size; simp at this; omega
                 have hf1 := Box.new w1 23 #[.int .i64 1, .int .i64 i, .int .i64 s, .bool true]
                 have x2 := hf1.cell
                 clear p0
                 have p0 := P0.out _ d1.2
                 have D1 := Lib.hid (And.intro d1 (And.intro hm1 hf1))
                 clear hb1 d1 hm1 hf1)
              | (go_at_call 35
                 refine (in_any A2 segs.length c2 segs s _ ((HS.out.below ((Below.al w (.cells #[.int .i64 i, .int .i64 ns, .int .i64 nx, .int .i64 mk, .int .i64 cl, .slice A2 segs.length c2, pv] 31)).trans (D1.out.1.2.mono (by simp)))).mono (by have := D1.out.1.2.size; simp at this ⊢; omega)) rfl hsl).mono ?_
                 rintro e w2 ⟨rfl, hw2⟩
                 rw [hw2, IN.out]
                 clear hw2)
              | (at_builtin
                 have D3 := D1.out.1.next (Below.al (w1.alloc (.cells #[.int .i64 1, .int .i64 i, .int .i64 s, .bool true] 23)) (.cells #[.string nm] 9))
                 refine wpList_app _ rfl (.tmp 68) (.tmp 73) _ rfl (w.alloc (.cells #[.int .i64 i, .int .i64 ns, .int .i64 nx, .int .i64 mk, .int .i64 cl, .slice A2 segs.length c2, pv] 31)).heap.size 9 i1 _ 1 16 Tryd.underlying27 hi1 hz1 hs1 hy1 rfl (by decide) _ _ _ rfl D3.1 _ _ 1 1 [.string nm] rfl rfl (rd_newB ((w1.alloc (.cells #[.int .i64 1, .int .i64 i, .int .i64 s, .bool true] 23))) _ _ _ (by simp)) (by intro u hu; simp at hu; subst hu; rfl) (by unfold maxLen; omega) (by omega) D3.2.size ?_
                 intro v' w4 hown hg4 hor
                 have HG := Lib.hid (D3.grow hown hg4)
                 clear hown hg4 hor D3))
            go_roundw
            case rel => exact ⟨k0 + 1, by omega, by go_num, by rw [HX.out]; exact HG.out⟩
            case measure => simp [intOf]; omega
          | false =>
            have HX := Lib.hid (HT.out.trans (if_pos (by unfold orphP; simp [mark_none hin])))
            clear HT
            clear hin
            go_wp2_with (first
              | (go_at_call 8
                 refine (C1.out _).mono ?_
                 rintro e w1 ⟨rfl, hb1⟩
                 have d1 := (DS.out.next hb1).next (Below.al w1 (.cells #[.int .i64 1, .int .i64 i, .int .i64 s, .bool false] 23))
                 have hm1 := (Box.new w 31 #[.int .i64 i, .int .i64 ns, .int .i64 nx, .int .i64 mk, .int .i64 cl, .slice A2 segs.length c2, pv]).below d1.2 (by simp)
                 have x1 := hm1.cell
                 have y1 : w.heap.size < w1.heap.size := by have := (DS.out.next hb1).2.size; simp at this; omega
                 have hf1 := Box.new w1 23 #[.int .i64 1, .int .i64 i, .int .i64 s, .bool false]
                 have x2 := hf1.cell
                 clear p0
                 have p0 := P0.out _ d1.2
                 have D1 := Lib.hid (And.intro d1 (And.intro hm1 hf1))
                 clear hb1 d1 hm1 hf1)
              | (go_at_call 35
                 refine (in_any A2 segs.length c2 segs s _ ((HS.out.below ((Below.al w (.cells #[.int .i64 i, .int .i64 ns, .int .i64 nx, .int .i64 mk, .int .i64 cl, .slice A2 segs.length c2, pv] 31)).trans (D1.out.1.2.mono (by simp)))).mono (by have := D1.out.1.2.size; simp at this ⊢; omega)) rfl hsl).mono ?_
                 rintro e w2 ⟨rfl, hw2⟩
                 rw [hw2, IN.out]
                 clear hw2)
              | (at_builtin
                 have D3 := D1.out.1.next (Below.al (w1.alloc (.cells #[.int .i64 1, .int .i64 i, .int .i64 s, .bool false] 23)) (.cells #[.string nm] 9))
                 refine wpList_app _ rfl (.tmp 68) (.tmp 73) _ rfl (w.alloc (.cells #[.int .i64 i, .int .i64 ns, .int .i64 nx, .int .i64 mk, .int .i64 cl, .slice A2 segs.length c2, pv] 31)).heap.size 9 i1 _ 1 16 Tryd.underlying27 hi1 hz1 hs1 hy1 rfl (by decide) _ _ _ rfl D3.1 _ _ 1 1 [.string nm] rfl rfl (rd_newB ((w1.alloc (.cells #[.int .i64 1, .int .i64 i, .int .i64 s, .bool false] 23))) _ _ _ (by simp)) (by intro u hu; simp at hu; subst hu; rfl) (by unfold maxLen; omega) (by omega) D3.2.size ?_
                 intro v' w4 hown hg4 hor
                 have HG := Lib.hid (D3.grow hown hg4)
                 clear hown hg4 hor D3))
            go_roundw
            case rel => exact ⟨k0 + 1, by omega, by go_num, by rw [HX.out]; exact HG.out⟩
            case measure => simp [intOf]; omega
      · clear hq0 hq4 h0 h4 b0 b4
        by_cases hin : s ∈ segs
        · have IN := Lib.hid (show decide (s ∈ segs) = true from decide_eq_true hin)
          have hpos : 0 < segs.length := List.length_pos_of_mem hin
          have hlp : segs.length - 1 < segs.length := by omega
          obtain ⟨ad2, rfl, hadb2, hcell2⟩ := HS.out.int hlp
          have hgl : segs.getLast? = some segs[segs.length - 1] := by rw [List.getLast?_eq_getElem?, List.getElem?_eq_getElem hlp]
          have hq1 : (0 : Int) ≤ (segs.length : Int) - 1 := by omega
          have hq2 : (segs.length : Int) - 1 < segs.length := by omega
          have hq3 : ((segs.length : Int) - 1).toNat = segs.length - 1 := by omega
          generalize segs[segs.length - 1] = z at hgl hcell2
          have P2 := Lib.hid (fun W (hb : Below (w.alloc (.cells #[.int .i64 i, .int .i64 ns, .int .i64 nx, .int .i64 mk, .int .i64 cl, .slice (some ad2) segs.length c2, pv] 31)).heap.size (w.alloc (.cells #[.int .i64 i, .int .i64 ns, .int .i64 nx, .int .i64 mk, .int .i64 cl, .slice (some ad2) segs.length c2, pv] 31)) W) => show W.cell? (ad2.add (segs.length - 1)) = some (.int .i64 z) from (((Below.al w (.cells #[.int .i64 i, .int .i64 ns, .int .i64 nx, .int .i64 mk, .int .i64 cl, .slice (some ad2) segs.length c2, pv] 31)).trans (hb.mono (by simp))).cell (by rw [add_block]; exact hadb2)).trans hcell2)
          clear hcell2
          by_cases hzl : z = s
          · subst hzl
            have bz : (z != z) = false := by simp
            cases t with
            | true =>
              have HX := Lib.hid (HT.out.trans (if_pos (by unfold orphP; simp)))
              clear HT
              clear hin hgl
              go_upto_region 9 with (first
                | (go_at_call 8
                   refine (C1.out _).mono ?_
                   rintro e w1 ⟨rfl, hb1⟩
                   have d1 := (DS.out.next hb1).next (Below.al w1 (.cells #[.int .i64 2, .int .i64 i, .int .i64 z, .bool true] 23))
                   have hm1 := (Box.new w 31 #[.int .i64 i, .int .i64 ns, .int .i64 nx, .int .i64 mk, .int .i64 cl, .slice (some ad2) segs.length c2, pv]).below d1.2 (by simp)
                   have x1 := hm1.cell
                   have y1 : w.heap.size < w1.heap.size := by have := (DS.out.next hb1).2.size; simp at this; omega
                   have hf1 := Box.new w1 23 #[.int .i64 2, .int .i64 i, .int .i64 z, .bool true]
                   have x2 := hf1.cell
                   clear p0
                   have p0 := P0.out _ d1.2
                   have c9 := P2.out _ d1.2
                   have D1 := Lib.hid (And.intro d1 (And.intro hm1 hf1))
                   clear hb1 d1 hm1 hf1)
                | (go_at_call 35
                   refine (in_any (some ad2) segs.length c2 segs z _ ((HS.out.below ((Below.al w (.cells #[.int .i64 i, .int .i64 ns, .int .i64 nx, .int .i64 mk, .int .i64 cl, .slice (some ad2) segs.length c2, pv] 31)).trans (D1.out.1.2.mono (by simp)))).mono (by have := D1.out.1.2.size; simp at this ⊢; omega)) rfl hsl).mono ?_
                   rintro e w2 ⟨rfl, hw2⟩
                   rw [hw2, IN.out]
                   clear hw2)
                | fail)
              go_quiet (fail)
              generalize hw9 : World.drewN _ _ = w9
              have D9 := Lib.hid (show SRow (w.alloc (.cells #[.int .i64 i, .int .i64 ns, .int .i64 nx, .int .i64 mk, .int .i64 cl, .slice (some ad2) segs.length c2, pv] 31)) w9 _ _ ∧ Box w9 w.heap.size 31 #[.int .i64 i, .int .i64 ns, .int .i64 nx, .int .i64 mk, .int .i64 cl, .slice (some ad2) segs.length c2, pv] ∧ Box w9 w1.heap.size 23 _ by rw [← hw9]; exact ⟨D1.out.1.drewN _, D1.out.2.1.drewN _, D1.out.2.2.drewN _⟩)
              clear hw9 x1 x2
              have x1 := D9.out.2.1.cell
              have x2 := D9.out.2.2.cell
              clear p0
              have p0 := P0.out _ D9.out.1.2
              go_wp2_with (first
                | (at_builtin
                   have D3 := D9.out.1.next (Below.al w9 (.cells #[.string nm] 9))
                   refine wpList_app _ rfl (.tmp 68) (.tmp 73) _ rfl (w.alloc (.cells #[.int .i64 i, .int .i64 ns, .int .i64 nx, .int .i64 mk, .int .i64 cl, .slice (some ad2) segs.length c2, pv] 31)).heap.size 9 i1 _ 1 16 Tryd.underlying27 hi1 hz1 hs1 hy1 rfl (by decide) _ _ _ rfl D3.1 _ _ 1 1 [.string nm] rfl rfl (rd_newB (w9) _ _ _ (by simp)) (by intro u hu; simp at hu; subst hu; rfl) (by unfold maxLen; omega) (by omega) D3.2.size ?_
                   intro v' w4 hown hg4 hor
                   have HG := Lib.hid (D3.grow hown hg4)
                   clear hown hg4 hor D3))
              go_roundw
              case rel => exact ⟨k0 + 1, by omega, by go_num, by rw [HX.out]; exact HG.out⟩
              case measure => simp [intOf]; omega
            | false =>
              have HX := Lib.hid (HT.out.trans (if_pos (by unfold orphP; simp [mark_last hgl])))
              clear HT
              clear hin hgl
              go_upto_region 9 with (first
                | (go_at_call 8
                   refine (C1.out _).mono ?_
                   rintro e w1 ⟨rfl, hb1⟩
                   have d1 := (DS.out.next hb1).next (Below.al w1 (.cells #[.int .i64 2, .int .i64 i, .int .i64 z, .bool false] 23))
                   have hm1 := (Box.new w 31 #[.int .i64 i, .int .i64 ns, .int .i64 nx, .int .i64 mk, .int .i64 cl, .slice (some ad2) segs.length c2, pv]).below d1.2 (by simp)
                   have x1 := hm1.cell
                   have y1 : w.heap.size < w1.heap.size := by have := (DS.out.next hb1).2.size; simp at this; omega
                   have hf1 := Box.new w1 23 #[.int .i64 2, .int .i64 i, .int .i64 z, .bool false]
                   have x2 := hf1.cell
                   clear p0
                   have p0 := P0.out _ d1.2
                   have c9 := P2.out _ d1.2
                   have D1 := Lib.hid (And.intro d1 (And.intro hm1 hf1))
                   clear hb1 d1 hm1 hf1)
                | (go_at_call 35
                   refine (in_any (some ad2) segs.length c2 segs z _ ((HS.out.below ((Below.al w (.cells #[.int .i64 i, .int .i64 ns, .int .i64 nx, .int .i64 mk, .int .i64 cl, .slice (some ad2) segs.length c2, pv] 31)).trans (D1.out.1.2.mono (by simp)))).mono (by have := D1.out.1.2.size; simp at this ⊢; omega)) rfl hsl).mono ?_
                   rintro e w2 ⟨rfl, hw2⟩
                   rw [hw2, IN.out]
                   clear hw2)
                | fail)
              go_quiet (fail)
              generalize hw9 : World.drewN _ _ = w9
              have D9 := Lib.hid (show SRow (w.alloc (.cells #[.int .i64 i, .int .i64 ns, .int .i64 nx, .int .i64 mk, .int .i64 cl, .slice (some ad2) segs.length c2, pv] 31)) w9 _ _ ∧ Box w9 w.heap.size 31 #[.int .i64 i, .int .i64 ns, .int .i64 nx, .int .i64 mk, .int .i64 cl, .slice (some ad2) segs.length c2, pv] ∧ Box w9 w1.heap.size 23 _ by rw [← hw9]; exact ⟨D1.out.1.drewN _, D1.out.2.1.drewN _, D1.out.2.2.drewN _⟩)
              clear hw9 x1 x2
              have x1 := D9.out.2.1.cell
              have x2 := D9.out.2.2.cell
              clear p0
              have p0 := P0.out _ D9.out.1.2
              go_wp2_with (first
                | (at_builtin
                   have D3 := D9.out.1.next (Below.al w9 (.cells #[.string nm] 9))
                   refine wpList_app _ rfl (.tmp 68) (.tmp 73) _ rfl (w.alloc (.cells #[.int .i64 i, .int .i64 ns, .int .i64 nx, .int .i64 mk, .int .i64 cl, .slice (some ad2) segs.length c2, pv] 31)).heap.size 9 i1 _ 1 16 Tryd.underlying27 hi1 hz1 hs1 hy1 rfl (by decide) _ _ _ rfl D3.1 _ _ 1 1 [.string nm] rfl rfl (rd_newB (w9) _ _ _ (by simp)) (by intro u hu; simp at hu; subst hu; rfl) (by unfold maxLen; omega) (by omega) D3.2.size ?_
                   intro v' w4 hown hg4 hor
                   have HG := Lib.hid (D3.grow hown hg4)
                   clear hown hg4 hor D3))
              go_roundw
              case rel => exact ⟨k0 + 1, by omega, by go_num, by rw [HX.out]; exact HG.out⟩
              case measure => simp [intOf]; omega
          · have bz : (s != z) = true := by simpa using fun e => hzl e.symm
            cases t with
            | true =>
              have HX := Lib.hid (HT.out.trans (if_pos (by unfold orphP; simp)))
              clear HT
              clear hin hgl hzl
              go_upto_region 9 with (first
                | (go_at_call 8
                   refine (C1.out _).mono ?_
                   rintro e w1 ⟨rfl, hb1⟩
                   have d1 := (DS.out.next hb1).next (Below.al w1 (.cells #[.int .i64 2, .int .i64 i, .int .i64 s, .bool true] 23))
                   have hm1 := (Box.new w 31 #[.int .i64 i, .int .i64 ns, .int .i64 nx, .int .i64 mk, .int .i64 cl, .slice (some ad2) segs.length c2, pv]).below d1.2 (by simp)
                   have x1 := hm1.cell
                   have y1 : w.heap.size < w1.heap.size := by have := (DS.out.next hb1).2.size; simp at this; omega
                   have hf1 := Box.new w1 23 #[.int .i64 2, .int .i64 i, .int .i64 s, .bool true]
                   have x2 := hf1.cell
                   clear p0
                   have p0 := P0.out _ d1.2
                   have c9 := P2.out _ d1.2
                   have D1 := Lib.hid (And.intro d1 (And.intro hm1 hf1))
                   clear hb1 d1 hm1 hf1)
                | (go_at_call 35
                   refine (in_any (some ad2) segs.length c2 segs s _ ((HS.out.below ((Below.al w (.cells #[.int .i64 i, .int .i64 ns, .int .i64 nx, .int .i64 mk, .int .i64 cl, .slice (some ad2) segs.length c2, pv] 31)).trans (D1.out.1.2.mono (by simp)))).mono (by have := D1.out.1.2.size; simp at this ⊢; omega)) rfl hsl).mono ?_
                   rintro e w2 ⟨rfl, hw2⟩
                   rw [hw2, IN.out]
                   clear hw2)
                | fail)
              go_quiet (fail)
              generalize hw9 : World.drewN _ _ = w9
              have D9 := Lib.hid (show SRow (w.alloc (.cells #[.int .i64 i, .int .i64 ns, .int .i64 nx, .int .i64 mk, .int .i64 cl, .slice (some ad2) segs.length c2, pv] 31)) w9 _ _ ∧ Box w9 w.heap.size 31 #[.int .i64 i, .int .i64 ns, .int .i64 nx, .int .i64 mk, .int .i64 cl, .slice (some ad2) segs.length c2, pv] ∧ Box w9 w1.heap.size 23 _ by rw [← hw9]; exact ⟨D1.out.1.drewN _, D1.out.2.1.drewN _, D1.out.2.2.drewN _⟩)
              clear hw9 x1 x2
              have x1 := D9.out.2.1.cell
              have x2 := D9.out.2.2.cell
              clear p0
              have p0 := P0.out _ D9.out.1.2
              go_wp2_with (first
                | (at_builtin
                   have D3 := D9.out.1.next (Below.al w9 (.cells #[.string nm] 9))
                   refine wpList_app _ rfl (.tmp 68) (.tmp 73) _ rfl (w.alloc (.cells #[.int .i64 i, .int .i64 ns, .int .i64 nx, .int .i64 mk, .int .i64 cl, .slice (some ad2) segs.length c2, pv] 31)).heap.size 9 i1 _ 1 16 Tryd.underlying27 hi1 hz1 hs1 hy1 rfl (by decide) _ _ _ rfl D3.1 _ _ 1 1 [.string nm] rfl rfl (rd_newB (w9) _ _ _ (by simp)) (by intro u hu; simp at hu; subst hu; rfl) (by unfold maxLen; omega) (by omega) D3.2.size ?_
                   intro v' w4 hown hg4 hor
                   have HG := Lib.hid (D3.grow hown hg4)
                   clear hown hg4 hor D3))
              go_roundw
              case rel => exact ⟨k0 + 1, by omega, by go_num, by rw [HX.out]; exact HG.out⟩
              case measure => simp [intOf]; omega
            | false =>
              have hmk : markP segs s = 1 := mark_one hin (by rw [hgl]; intro e; injection e with e; exact hzl e)
              have HX := Lib.hid (HT.out.trans (if_neg (fun e => by rw [show orphP i segs ⟨2, i, s, false⟩ = false by unfold orphP; simp [hmk]] at e; cases e)))
              clear HT
              clear hmk
              clear hin hgl hzl
              go_upto_region 9 with (first
                | (go_at_call 8
                   refine (C1.out _).mono ?_
                   rintro e w1 ⟨rfl, hb1⟩
                   have d1 := (DS.out.next hb1).next (Below.al w1 (.cells #[.int .i64 2, .int .i64 i, .int .i64 s, .bool false] 23))
                   have hm1 := (Box.new w 31 #[.int .i64 i, .int .i64 ns, .int .i64 nx, .int .i64 mk, .int .i64 cl, .slice (some ad2) segs.length c2, pv]).below d1.2 (by simp)
                   have x1 := hm1.cell
                   have y1 : w.heap.size < w1.heap.size := by have := (DS.out.next hb1).2.size; simp at this; omega
                   have hf1 := Box.new w1 23 #[.int .i64 2, .int .i64 i, .int .i64 s, .bool false]
                   have x2 := hf1.cell
                   clear p0
                   have p0 := P0.out _ d1.2
                   have c9 := P2.out _ d1.2
                   have D1 := Lib.hid (And.intro d1 (And.intro hm1 hf1))
                   clear hb1 d1 hm1 hf1)
                | (go_at_call 35
                   refine (in_any (some ad2) segs.length c2 segs s _ ((HS.out.below ((Below.al w (.cells #[.int .i64 i, .int .i64 ns, .int .i64 nx, .int .i64 mk, .int .i64 cl, .slice (some ad2) segs.length c2, pv] 31)).trans (D1.out.1.2.mono (by simp)))).mono (by have := D1.out.1.2.size; simp at this ⊢; omega)) rfl hsl).mono ?_
                   rintro e w2 ⟨rfl, hw2⟩
                   rw [hw2, IN.out]
                   clear hw2)
                | fail)
              go_quiet (fail)
              generalize hw9 : World.drewN _ _ = w9
              have D9 := Lib.hid (show SRow (w.alloc (.cells #[.int .i64 i, .int .i64 ns, .int .i64 nx, .int .i64 mk, .int .i64 cl, .slice (some ad2) segs.length c2, pv] 31)) w9 _ _ ∧ Box w9 w.heap.size 31 #[.int .i64 i, .int .i64 ns, .int .i64 nx, .int .i64 mk, .int .i64 cl, .slice (some ad2) segs.length c2, pv] ∧ Box w9 w1.heap.size 23 _ by rw [← hw9]; exact ⟨D1.out.1.drewN _, D1.out.2.1.drewN _, D1.out.2.2.drewN _⟩)
              clear hw9 x1 x2
              have x1 := D9.out.2.1.cell
              have x2 := D9.out.2.2.cell
              clear p0
              have p0 := P0.out _ D9.out.1.2
              go_wp2_with fail
              go_roundw
              case rel => exact ⟨k0 + 1, by omega, by go_num, by rw [HX.out]; exact D9.out.1⟩
              case measure => simp [intOf]; omega
        · have IN := Lib.hid (show decide (s ∈ segs) = false from decide_eq_false hin)
          cases t with
          | true =>
            have HX := Lib.hid (HT.out.trans (if_pos (by unfold orphP; simp)))
            clear HT
            clear hin
            go_wp2_with (first
              | (go_at_call 8
                 refine (C1.out _).mono ?_
                 rintro e w1 ⟨rfl, hb1⟩
                 have d1 := (DS.out.next hb1).next (Below.al w1 (.cells #[.int .i64 2, .int .i64 i, .int .i64 s, .bool true] 23))
                 have hm1 := (Box.new w 31 #[.int .i64 i, .int .i64 ns, .int .i64 nx, .int .i64 mk, .int .i64 cl, .slice A2 segs.length c2, pv]).below d1.2 (by simp)
                 have x1 := hm1.cell
                 have y1 : w.heap.size < w1.heap.size := by have := (DS.out.next hb1).2.size; simp at this; omega
                 have hf1 := Box.new w1 23 #[.int .i64 2, .int .i64 i, .int .i64 s, .bool true]
                 have x2 := hf1.cell
                 clear p0
                 have p0 := P0.out _ d1.2
                 have D1 := Lib.hid (And.intro d1 (And.intro hm1 hf1))
                 clear hb1 d1 hm1 hf1)
              | (go_at_call 35
                 refine (in_any A2 segs.length c2 segs s _ ((HS.out.below ((Below.al w (.cells #[.int .i64 i, .int .i64 ns, .int .i64 nx, .int .i64 mk, .int .i64 cl, .slice A2 segs.length c2, pv] 31)).trans (D1.out.1.2.mono (by simp)))).mono (by have := D1.out.1.2.size; simp at this ⊢; omega)) rfl hsl).mono ?_
                 rintro e w2 ⟨rfl, hw2⟩
                 rw [hw2, IN.out]
                 clear hw2)
              | (at_builtin
                 have D3 := D1.out.1.next (Below.al (w1.alloc (.cells #[.int .i64 2, .int .i64 i, .int .i64 s, .bool true] 23)) (.cells #[.string nm] 9))
                 refine wpList_app _ rfl (.tmp 68) (.tmp 73) _ rfl (w.alloc (.cells #[.int .i64 i, .int .i64 ns, .int .i64 nx, .int .i64 mk, .int .i64 cl, .slice A2 segs.length c2, pv] 31)).heap.size 9 i1 _ 1 16 Tryd.underlying27 hi1 hz1 hs1 hy1 rfl (by decide) _ _ _ rfl D3.1 _ _ 1 1 [.string nm] rfl rfl (rd_newB ((w1.alloc (.cells #[.int .i64 2, .int .i64 i, .int .i64 s, .bool true] 23))) _ _ _ (by simp)) (by intro u hu; simp at hu; subst hu; rfl) (by unfold maxLen; omega) (by omega) D3.2.size ?_
                 intro v' w4 hown hg4 hor
                 have HG := Lib.hid (D3.grow hown hg4)
                 clear hown hg4 hor D3))
            go_roundw
            case rel => exact ⟨k0 + 1, by omega, by go_num, by rw [HX.out]; exact HG.out⟩
            case measure => simp [intOf]; omega
          | false =>
            have HX := Lib.hid (HT.out.trans (if_pos (by unfold orphP; simp [mark_none hin])))
            clear HT
            clear hin
            go_wp2_with (first
              | (go_at_call 8
                 refine (C1.out _).mono ?_
                 rintro e w1 ⟨rfl, hb1⟩
                 have d1 := (DS.out.next hb1).next (Below.al w1 (.cells #[.int .i64 2, .int .i64 i, .int .i64 s, .bool false] 23))
                 have hm1 := (Box.new w 31 #[.int .i64 i, .int .i64 ns, .int .i64 nx, .int .i64 mk, .int .i64 cl, .slice A2 segs.length c2, pv]).below d1.2 (by simp)
                 have x1 := hm1.cell
                 have y1 : w.heap.size < w1.heap.size := by have := (DS.out.next hb1).2.size; simp at this; omega
                 have hf1 := Box.new w1 23 #[.int .i64 2, .int .i64 i, .int .i64 s, .bool false]
                 have x2 := hf1.cell
                 clear p0
                 have p0 := P0.out _ d1.2
                 have D1 := Lib.hid (And.intro d1 (And.intro hm1 hf1))
                 clear hb1 d1 hm1 hf1)
              | (go_at_call 35
                 refine (in_any A2 segs.length c2 segs s _ ((HS.out.below ((Below.al w (.cells #[.int .i64 i, .int .i64 ns, .int .i64 nx, .int .i64 mk, .int .i64 cl, .slice A2 segs.length c2, pv] 31)).trans (D1.out.1.2.mono (by simp)))).mono (by have := D1.out.1.2.size; simp at this ⊢; omega)) rfl hsl).mono ?_
                 rintro e w2 ⟨rfl, hw2⟩
                 rw [hw2, IN.out]
                 clear hw2)
              | (at_builtin
                 have D3 := D1.out.1.next (Below.al (w1.alloc (.cells #[.int .i64 2, .int .i64 i, .int .i64 s, .bool false] 23)) (.cells #[.string nm] 9))
                 refine wpList_app _ rfl (.tmp 68) (.tmp 73) _ rfl (w.alloc (.cells #[.int .i64 i, .int .i64 ns, .int .i64 nx, .int .i64 mk, .int .i64 cl, .slice A2 segs.length c2, pv] 31)).heap.size 9 i1 _ 1 16 Tryd.underlying27 hi1 hz1 hs1 hy1 rfl (by decide) _ _ _ rfl D3.1 _ _ 1 1 [.string nm] rfl rfl (rd_newB ((w1.alloc (.cells #[.int .i64 2, .int .i64 i, .int .i64 s, .bool false] 23))) _ _ _ (by simp)) (by intro u hu; simp at hu; subst hu; rfl) (by unfold maxLen; omega) (by omega) D3.2.size ?_
                 intro v' w4 hown hg4 hor
                 have HG := Lib.hid (D3.grow hown hg4)
                 clear hown hg4 hor D3))
            go_roundw
            case rel => exact ⟨k0 + 1, by omega, by go_num, by rw [HX.out]; exact HG.out⟩
            case measure => simp [intOf]; omega
      · clear hq0 hq4 h0 h4 b0 b4
        cases t with
        | true =>
          have HX := Lib.hid (HT.out.trans (if_pos (by unfold orphP; simp)))
          clear HT
          go_wp2_with (first
            | (go_at_call 8
               refine (C1.out _).mono ?_
               rintro e w1 ⟨rfl, hb1⟩
               have d1 := (DS.out.next hb1).next (Below.al w1 (.cells #[.int .i64 3, .int .i64 i, .int .i64 s, .bool true] 23))
               have hm1 := (Box.new w 31 #[.int .i64 i, .int .i64 ns, .int .i64 nx, .int .i64 mk, .int .i64 cl, .slice A2 segs.length c2, pv]).below d1.2 (by simp)
               have x1 := hm1.cell
               have y1 : w.heap.size < w1.heap.size := by have := (DS.out.next hb1).2.size; simp at this; omega
               have hf1 := Box.new w1 23 #[.int .i64 3, .int .i64 i, .int .i64 s, .bool true]
               have x2 := hf1.cell
               clear p0
               have p0 := P0.out _ d1.2
               have D1 := Lib.hid (And.intro d1 (And.intro hm1 hf1))
               clear hb1 d1 hm1 hf1)
            | (at_builtin
               have D3 := D1.out.1.next (Below.al (w1.alloc (.cells #[.int .i64 3, .int .i64 i, .int .i64 s, .bool true] 23)) (.cells #[.string nm] 9))
               refine wpList_app _ rfl (.tmp 68) (.tmp 73) _ rfl (w.alloc (.cells #[.int .i64 i, .int .i64 ns, .int .i64 nx, .int .i64 mk, .int .i64 cl, .slice A2 segs.length c2, pv] 31)).heap.size 9 i1 _ 1 16 Tryd.underlying27 hi1 hz1 hs1 hy1 rfl (by decide) _ _ _ rfl D3.1 _ _ 1 1 [.string nm] rfl rfl (rd_newB ((w1.alloc (.cells #[.int .i64 3, .int .i64 i, .int .i64 s, .bool true] 23))) _ _ _ (by simp)) (by intro u hu; simp at hu; subst hu; rfl) (by unfold maxLen; omega) (by omega) D3.2.size ?_
               intro v' w4 hown hg4 hor
               have HG := Lib.hid (D3.grow hown hg4)
               clear hown hg4 hor D3))
          go_roundw
          case rel => exact ⟨k0 + 1, by omega, by go_num, by rw [HX.out]; exact HG.out⟩
          case measure => simp [intOf]; omega
        | false =>
          have HX := Lib.hid (HT.out.trans (if_neg (fun e => by rw [show orphP i segs ⟨3, i, s, false⟩ = false by unfold orphP; simp] at e; cases e)))
          clear HT
          go_wp2_with (first
            | (go_at_call 8
               refine (C1.out _).mono ?_
               rintro e w1 ⟨rfl, hb1⟩
               have d1 := (DS.out.next hb1).next (Below.al w1 (.cells #[.int .i64 3, .int .i64 i, .int .i64 s, .bool false] 23))
               have hm1 := (Box.new w 31 #[.int .i64 i, .int .i64 ns, .int .i64 nx, .int .i64 mk, .int .i64 cl, .slice A2 segs.length c2, pv]).below d1.2 (by simp)
               have x1 := hm1.cell
               have y1 : w.heap.size < w1.heap.size := by have := (DS.out.next hb1).2.size; simp at this; omega
               have hf1 := Box.new w1 23 #[.int .i64 3, .int .i64 i, .int .i64 s, .bool false]
               have x2 := hf1.cell
               clear p0
               have p0 := P0.out _ d1.2
               have D1 := Lib.hid (And.intro d1 (And.intro hm1 hf1))
               clear hb1 d1 hm1 hf1))
          go_roundw
          case rel => exact ⟨k0 + 1, by omega, by go_num, by rw [HX.out]; exact D1.out.1⟩
          case measure => simp [intOf]; omega
    · have hkn : k0 = n := by omega
      subst hkn
      have HT := Lib.hid (show names.take k0 = names by rw [← HA.out.2.1, List.take_length])
      have DS := Lib.hid hR
      clear hR
      go_wp2
      go_ret
      rw [HT.out] at DS
      exact ⟨_, rfl, DS.out.base (Below.al _ _)⟩
end Go.Proofs.YtbmbgkgjlnookaaDoor
