import Derived.Test.YtbmbgkgjlnookaaDoorOr4
/- ManifestOrphans: the document's Strangers. -/
namespace Go.Proofs.YtbmbgkgjlnookaaDoor
open Go.RowKit Go.Maps

theorem know_take {l : List Int} {q : Nat} (hq : q < l.length) (i : Int) : decide (i = 0 ∨ i ∈ l.take (q + 1)) = (decide (i = 0 ∨ i ∈ l.take q) || (l[q] == i)) := by
  rw [Bool.eq_iff_iff]
  simp only [decide_eq_true_eq, Bool.or_eq_true, beq_iff_eq, take_mem hq]
  constructor
  · rintro (h | h | h)
    · exact .inl (.inl h)
    · exact .inr h.symm
    · exact .inl (.inr h)
  · rintro ((h | h) | h)
    · exact .inl h
    · exact .inr (.inr h)
    · exact .inr (.inl h.symm)
theorem strP_else {ids : List Int} {k i s : Int} {t : Bool} (h0 : k ≠ 0) (h4 : k ≠ 4) (hi : 0 ≤ i) {b : Bool} (hb : decide (i = 0 ∨ i ∈ ids) = b) : strP ids ⟨k, i, s, t⟩ = !b := by
  rw [← hb]
  unfold strP knowG
  simp only
  rw [if_neg h0, if_neg h4]
  by_cases hm : i ∈ ids
  · simp [hm]
  · simp only [hm, if_false, or_false]
    by_cases hz : i = 0
    · simp [hz]
    · simp [hz]; omega
set_option maxRecDepth 100000 in
set_option maxHeartbeats 8000000 in
theorem strangersR_any (A : Option Addr) (n cc : Nat) (names : List ByteArray) (nid : Int) (A2 : Option Addr) (c2 : Nat) (tl : List T4) (w : World)
    (hA : Rd w w.heap.size A (names.map Value.string)) (hn : names.length = n) (hmx : n ≤ 1048576) (hz : ∀ s ∈ names, s.size ≤ 1048576)
    (hS : Rd w w.heap.size A2 (tl.flatMap quad)) (hsl : tl.length ≤ 1048576) :
    Calls Tryd.prog 19 #[.slice A n cc, catV nid (.slice A2 tl.length c2)] w fun e w' => ∃ v, e = .returned v ∧ SRow w w' v (names.filter fun s => strP (tl.map T4.id) (parseB s)) := by
  obtain ⟨i1, hi1, hz1, hs1, hy1⟩ := info_parts info_str
  have HA := Lib.hid (And.intro hA (And.intro hn hz))
  have HS := Lib.hid hS
  have H0 := Lib.hid (SRow.nil (w.alloc (.cells #[.int .i64 nid, .slice A2 tl.length c2] 34)))
  clear hA hn hz hS
  go_enter Tryd.func19, Tryd.ntmps19
  go_wp2
  go_loopw [5, 6] (fun v i wr => ∃ k0 : Nat, k0 ≤ n ∧ i = .int .i64 k0 ∧ SRow (w.alloc (.cells #[.int .i64 nid, .slice A2 tl.length c2] 34)) wr v ((names.take k0).filter fun s => strP (tl.map T4.id) (parseB s))) (fun _ i _ => n - (intOf i).toNat)
  case atStart => exact ⟨0, Nat.zero_le _, rfl, H0.out⟩
  case round =>
    clear H0
    obtain ⟨k0, hk, rfl, hR⟩ := hrel
    by_cases hlt : k0 < n
    · have hkl : k0 < names.length := by rw [HA.out.2.1]; exact hlt
      obtain ⟨ad, rfl, hadb, p0⟩ := (HA.out.1.below ((Below.al w (.cells #[.int .i64 nid, .slice A2 tl.length c2] 34)).trans (hR.2.mono (by simp)))).str hkl
      have HT := Lib.hid (pfilter_snoc (pr := strP (tl.map T4.id)) hkl)
      have hzk := HA.out.2.2 _ (List.getElem_mem hkl)
      generalize names[k0] = nm at p0 HT hzk
      have hlm := filter_lenS (f := fun s => strP (tl.map T4.id) (parseB s)) (l := names) (k := k0)
      have DS := Lib.hid hR
      have C1 := Lib.hid (fun W => parseR_b nm W hzk)
      have hok := parseB_ok nm
      generalize parseB nm = x at C1 HT hok
      have hk0 : (0 : Int) ≤ k0 := by omega
      have hk1 : (k0 : Int) < n := by omega
      have hbk : (ad.add k0).block < (w.alloc (.cells #[.int .i64 nid, .slice A2 tl.length c2] 34)).heap.size := by rw [add_block]; simp; omega
      have P0 := Lib.hid (fun W (hb : Below (w.alloc (.cells #[.int .i64 nid, .slice A2 tl.length c2] 34)).heap.size (w.alloc (.cells #[.int .i64 nid, .slice A2 tl.length c2] 34)) W) => show W.cell? (ad.add k0) = some (.string nm) from (hb.cell hbk).trans ((hR.2.cell hbk).symm.trans p0))
      clear hR hkl hzk hbk
      obtain ⟨k, i, s, t⟩ := x
      have Hi := Lib.hid hok.i0
      have HK := Lib.hid (And.intro hok.k0 hok.k4)
      simp only [FN.v] at C1
      clear hok
      go_wp2_with (go_at_call 8
                   refine (C1.out _).mono ?_
                   rintro e w1 ⟨rfl, hb1⟩
                   have d1 := (DS.out.next hb1).next (Below.al w1 (.cells #[.int .i64 k, .int .i64 i, .int .i64 s, .bool t] 23))
                   have hm1 := (Box.new w 34 #[.int .i64 nid, .slice A2 tl.length c2]).below d1.2 (by simp)
                   have x1 := hm1.cell
                   have y1 : w.heap.size < w1.heap.size := by have := (DS.out.next hb1).2.size; simp at this; omega
                   have hf1 := Box.new w1 23 #[.int .i64 k, .int .i64 i, .int .i64 s, .bool t]
                   have x2 := hf1.cell
                   have D1 := Lib.hid (And.intro d1 (And.intro hm1 hf1))
                   clear hb1 d1 hm1 hf1 p0)
      go_loopw [8, 9] (fun b q wx => ∃ (m : Nat) (kb : Bool), m ≤ tl.length ∧ q = .int .i64 m ∧ b = .bool kb ∧ kb = decide (i = 0 ∨ i ∈ (tl.map T4.id).take m) ∧ SRow (w.alloc (.cells #[.int .i64 nid, .slice A2 tl.length c2] 34)) wx u5 ((names.take k0).filter fun s => strP (tl.map T4.id) (parseB s)) ∧ Box wx w.heap.size 34 #[.int .i64 nid, .slice A2 tl.length c2] ∧ Box wx w1.heap.size 23 #[.int .i64 k, .int .i64 i, .int .i64 s, .bool t]) (fun _ q _ => tl.length - (intOf q).toNat)
      case atStart => exact ⟨0, _, Nat.zero_le _, rfl, rfl, by rw [Bool.eq_iff_iff]; simp, D1.out⟩
      case round =>
        clear D1 x1 x2
        obtain ⟨m, kb, hm, rfl, rfl, hkb, hI⟩ := hrel
        have x1 := hI.2.1.cell
        have x2 := hI.2.2.cell
        by_cases hlm2 : m < tl.length
        · obtain ⟨ad2, rfl, hadb2, e0, e1, e2, e3⟩ := (HS.out.below ((Below.al w (.cells #[.int .i64 nid, .slice A2 tl.length c2] 34)).trans (hI.1.2.mono (by simp)))).quad_ hlm2
          have hmm : m < (tl.map T4.id).length := by simpa using hlm2
          have hkt := know_take hmm i
          rw [← hkb, show (tl.map T4.id)[m] = tl[m].id by simp] at hkt
          have hm0 : (0 : Int) ≤ m := by omega
          have hm1 : (m : Int) < tl.length := by omega
          have HI := Lib.hid hI
          have HKT := Lib.hid hkt
          clear hI hkt hkb hmm
          generalize tl[m] = tm at e0 e1 e2 e3 HKT
          cases kb with
          | true =>
            rw [Bool.true_or] at HKT
            go_upto_region 10 with fail
            go_quiet (fail)
            generalize hw9 : World.drewN _ _ = w9
            have D9 := Lib.hid (show SRow (w.alloc (.cells #[.int .i64 nid, .slice (some ad2) tl.length c2] 34)) w9 u5 ((names.take k0).filter fun s => strP (tl.map T4.id) (parseB s)) ∧ Box w9 w.heap.size 34 #[.int .i64 nid, .slice (some ad2) tl.length c2] ∧ Box w9 w1.heap.size 23 #[.int .i64 k, .int .i64 i, .int .i64 s, .bool t] by rw [← hw9]; exact ⟨HI.out.1.drewN _, HI.out.2.1.drewN _, HI.out.2.2.drewN _⟩)
            clear hw9 x1 x2
            go_wp2_with fail
            go_roundw
            case rel => exact ⟨m + 1, true, by omega, by go_num, rfl, HKT.out.symm, D9.out⟩
            case measure => simp [intOf]; omega
          | false =>
            rw [Bool.false_or] at HKT
            go_upto_region 10 with fail
            go_quiet (fail)
            generalize hw9 : World.drewN _ _ = w9
            have D9 := Lib.hid (show SRow (w.alloc (.cells #[.int .i64 nid, .slice (some ad2) tl.length c2] 34)) w9 u5 ((names.take k0).filter fun s => strP (tl.map T4.id) (parseB s)) ∧ Box w9 w.heap.size 34 #[.int .i64 nid, .slice (some ad2) tl.length c2] ∧ Box w9 w1.heap.size 23 #[.int .i64 k, .int .i64 i, .int .i64 s, .bool t] by rw [← hw9]; exact ⟨HI.out.1.drewN _, HI.out.2.1.drewN _, HI.out.2.2.drewN _⟩)
            clear hw9 x1 x2
            go_wp2_with fail
            go_roundw
            case rel => exact ⟨m + 1, _, by omega, by go_num, rfl, HKT.out.symm, D9.out⟩
            case measure => simp [intOf]; omega
        · have hml : m = tl.length := by omega
          rw [hml, List.take_of_length_le (by simp)] at hkb
          have HI := Lib.hid hI
          have HKB := Lib.hid hkb
          have p0 := P0.out _ hI.1.2
          clear hI hkb hml
          by_cases h0 : k = 0
          · subst h0
            cases kb with
            | true =>
              have HX := Lib.hid (HT.out.trans (if_neg (fun e => by rw [show strP (tl.map T4.id) ⟨0, i, s, t⟩ = false by unfold strP; simp] at e; cases e)))
              clear HT
              go_wp2_with fail
              go_roundw
              case rel => exact ⟨k0 + 1, by omega, by go_num, by rw [HX.out]; exact HI.out.1⟩
              case measure => simp [intOf]; omega
            | false =>
              have HX := Lib.hid (HT.out.trans (if_neg (fun e => by rw [show strP (tl.map T4.id) ⟨0, i, s, t⟩ = false by unfold strP; simp] at e; cases e)))
              clear HT
              go_wp2_with fail
              go_roundw
              case rel => exact ⟨k0 + 1, by omega, by go_num, by rw [HX.out]; exact HI.out.1⟩
              case measure => simp [intOf]; omega
          by_cases h4 : k = 4
          · subst h4
            clear h0
            cases kb with
            | true =>
              cases t with
              | true =>
                have HX := Lib.hid (HT.out.trans (if_pos (by unfold strP; simp)))
                clear HT
                go_wp2_with (at_builtin
                             have D3 := HI.out.1.next (Below.al wr (.cells #[.string nm] 9))
                             refine wpList_app _ rfl (.tmp 71) (.tmp 76) _ rfl (w.alloc (.cells #[.int .i64 nid, .slice A2 tl.length c2] 34)).heap.size 9 i1 _ 1 16 Tryd.underlying27 hi1 hz1 hs1 hy1 rfl (by decide) _ _ _ rfl D3.1 _ _ 1 1 [.string nm] rfl rfl (rd_newB _ _ _ _ (by simp)) (by intro u hu; simp at hu; subst hu; rfl) (by unfold maxLen; omega) (by omega) D3.2.size ?_
                             intro v' w4 hown hg4 hor
                             have HG := Lib.hid (D3.grow hown hg4)
                             clear hown hg4 hor D3)
                go_roundw
                case rel => exact ⟨k0 + 1, by omega, by go_num, by rw [HX.out]; exact HG.out⟩
                case measure => simp [intOf]; omega
              | false =>
                have HX := Lib.hid (HT.out.trans (if_neg (fun e => by rw [show strP (tl.map T4.id) ⟨4, i, s, false⟩ = false by unfold strP; simp] at e; cases e)))
                clear HT
                go_wp2_with fail
                go_roundw
                case rel => exact ⟨k0 + 1, by omega, by go_num, by rw [HX.out]; exact HI.out.1⟩
                case measure => simp [intOf]; omega
            | false =>
              cases t with
              | true =>
                have HX := Lib.hid (HT.out.trans (if_pos (by unfold strP; simp)))
                clear HT
                go_wp2_with (at_builtin
                             have D3 := HI.out.1.next (Below.al wr (.cells #[.string nm] 9))
                             refine wpList_app _ rfl (.tmp 71) (.tmp 76) _ rfl (w.alloc (.cells #[.int .i64 nid, .slice A2 tl.length c2] 34)).heap.size 9 i1 _ 1 16 Tryd.underlying27 hi1 hz1 hs1 hy1 rfl (by decide) _ _ _ rfl D3.1 _ _ 1 1 [.string nm] rfl rfl (rd_newB _ _ _ _ (by simp)) (by intro u hu; simp at hu; subst hu; rfl) (by unfold maxLen; omega) (by omega) D3.2.size ?_
                             intro v' w4 hown hg4 hor
                             have HG := Lib.hid (D3.grow hown hg4)
                             clear hown hg4 hor D3)
                go_roundw
                case rel => exact ⟨k0 + 1, by omega, by go_num, by rw [HX.out]; exact HG.out⟩
                case measure => simp [intOf]; omega
              | false =>
                have HX := Lib.hid (HT.out.trans (if_neg (fun e => by rw [show strP (tl.map T4.id) ⟨4, i, s, false⟩ = false by unfold strP; simp] at e; cases e)))
                clear HT
                go_wp2_with fail
                go_roundw
                case rel => exact ⟨k0 + 1, by omega, by go_num, by rw [HX.out]; exact HI.out.1⟩
                case measure => simp [intOf]; omega
          have HSE := Lib.hid (strP_else (ids := tl.map T4.id) (s := s) (t := t) h0 h4 Hi.out HKB.out.symm)
          rcases (show k = 1 ∨ k = 2 ∨ k = 3 by have := HK.out.1; have := HK.out.2; omega) with rfl | rfl | rfl
          · clear h0 h4
            cases kb with
            | true =>
              have HX := Lib.hid (HT.out.trans (if_neg (fun e => by rw [show strP (tl.map T4.id) ⟨1, i, s, t⟩ = false by exact HSE.out] at e; cases e)))
              clear HT
              go_wp2_with fail
              go_roundw
              case rel => exact ⟨k0 + 1, by omega, by go_num, by rw [HX.out]; exact HI.out.1⟩
              case measure => simp [intOf]; omega
            | false =>
              have HX := Lib.hid (HT.out.trans (if_pos (HSE.out)))
              clear HT
              go_wp2_with (at_builtin
                           have D3 := HI.out.1.next (Below.al wr (.cells #[.string nm] 9))
                           refine wpList_app _ rfl (.tmp 71) (.tmp 76) _ rfl (w.alloc (.cells #[.int .i64 nid, .slice A2 tl.length c2] 34)).heap.size 9 i1 _ 1 16 Tryd.underlying27 hi1 hz1 hs1 hy1 rfl (by decide) _ _ _ rfl D3.1 _ _ 1 1 [.string nm] rfl rfl (rd_newB _ _ _ _ (by simp)) (by intro u hu; simp at hu; subst hu; rfl) (by unfold maxLen; omega) (by omega) D3.2.size ?_
                           intro v' w4 hown hg4 hor
                           have HG := Lib.hid (D3.grow hown hg4)
                           clear hown hg4 hor D3)
              go_roundw
              case rel => exact ⟨k0 + 1, by omega, by go_num, by rw [HX.out]; exact HG.out⟩
              case measure => simp [intOf]; omega
          · clear h0 h4
            cases kb with
            | true =>
              have HX := Lib.hid (HT.out.trans (if_neg (fun e => by rw [show strP (tl.map T4.id) ⟨2, i, s, t⟩ = false by exact HSE.out] at e; cases e)))
              clear HT
              go_wp2_with fail
              go_roundw
              case rel => exact ⟨k0 + 1, by omega, by go_num, by rw [HX.out]; exact HI.out.1⟩
              case measure => simp [intOf]; omega
            | false =>
              have HX := Lib.hid (HT.out.trans (if_pos (HSE.out)))
              clear HT
              go_wp2_with (at_builtin
                           have D3 := HI.out.1.next (Below.al wr (.cells #[.string nm] 9))
                           refine wpList_app _ rfl (.tmp 71) (.tmp 76) _ rfl (w.alloc (.cells #[.int .i64 nid, .slice A2 tl.length c2] 34)).heap.size 9 i1 _ 1 16 Tryd.underlying27 hi1 hz1 hs1 hy1 rfl (by decide) _ _ _ rfl D3.1 _ _ 1 1 [.string nm] rfl rfl (rd_newB _ _ _ _ (by simp)) (by intro u hu; simp at hu; subst hu; rfl) (by unfold maxLen; omega) (by omega) D3.2.size ?_
                           intro v' w4 hown hg4 hor
                           have HG := Lib.hid (D3.grow hown hg4)
                           clear hown hg4 hor D3)
              go_roundw
              case rel => exact ⟨k0 + 1, by omega, by go_num, by rw [HX.out]; exact HG.out⟩
              case measure => simp [intOf]; omega
          · clear h0 h4
            cases kb with
            | true =>
              have HX := Lib.hid (HT.out.trans (if_neg (fun e => by rw [show strP (tl.map T4.id) ⟨3, i, s, t⟩ = false by exact HSE.out] at e; cases e)))
              clear HT
              go_wp2_with fail
              go_roundw
              case rel => exact ⟨k0 + 1, by omega, by go_num, by rw [HX.out]; exact HI.out.1⟩
              case measure => simp [intOf]; omega
            | false =>
              have HX := Lib.hid (HT.out.trans (if_pos (HSE.out)))
              clear HT
              go_wp2_with (at_builtin
                           have D3 := HI.out.1.next (Below.al wr (.cells #[.string nm] 9))
                           refine wpList_app _ rfl (.tmp 71) (.tmp 76) _ rfl (w.alloc (.cells #[.int .i64 nid, .slice A2 tl.length c2] 34)).heap.size 9 i1 _ 1 16 Tryd.underlying27 hi1 hz1 hs1 hy1 rfl (by decide) _ _ _ rfl D3.1 _ _ 1 1 [.string nm] rfl rfl (rd_newB _ _ _ _ (by simp)) (by intro u hu; simp at hu; subst hu; rfl) (by unfold maxLen; omega) (by omega) D3.2.size ?_
                           intro v' w4 hown hg4 hor
                           have HG := Lib.hid (D3.grow hown hg4)
                           clear hown hg4 hor D3)
              go_roundw
              case rel => exact ⟨k0 + 1, by omega, by go_num, by rw [HX.out]; exact HG.out⟩
              case measure => simp [intOf]; omega
    · have hkn : k0 = n := by omega
      subst hkn
      have HT := Lib.hid (show names.take k0 = names by rw [← HA.out.2.1, List.take_length])
      have DS := Lib.hid hR
      clear hR
      go_wp2
      go_ret
      rw [HT.out] at DS
      exact ⟨_, rfl, DS.out.base (Below.al _ _)⟩
end Go.Proofs.YtbmbgkgjlnookaaDoor
