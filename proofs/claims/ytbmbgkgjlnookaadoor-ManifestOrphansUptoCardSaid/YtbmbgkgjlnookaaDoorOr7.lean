import Derived.Test.YtbmbgkgjlnookaaDoorOr6
/- ManifestOrphans: the law, walked. -/
namespace Go.Proofs.YtbmbgkgjlnookaaDoor
open Go.RowKit Go.Maps

theorem rev_get {l : List ByteArray} {k : Nat} (hk : k < l.length) : l.reverse.take (k + 1) = l.reverse.take k ++ [l[l.length - 1 - k]] := by
  rw [List.take_succ_eq_append_getElem (by simpa using hk)]
  congr 2
  rw [List.getElem_reverse]
set_option maxRecDepth 100000 in
set_option maxHeartbeats 16000000 in
theorem orphans_law (A : Option Addr) (n cc : Nat) (names : List ByteArray) (id ns nx mk cl nid : Int) (A1 A2 A3 : Option Addr) (c d e : Nat) (segs : List Int) (prods : List P3) (tl : List T4) (w : World) (E : Env w)
    (hA : Rd w w.heap.size A (names.map Value.string)) (hn : names.length = n) (hmx : n ≤ 1048576) (hz : ∀ s ∈ names, s.size ≤ 1048576)
    (hA1 : Rd w w.heap.size A1 (segs.map (.int .i64))) (hA2 : Rd w w.heap.size A2 (prods.flatMap tri)) (hA3 : Rd w w.heap.size A3 (tl.flatMap quad))
    (ha : segs.length ≤ 1048576) (hb : prods.length ≤ 1048576) (hc : tl.length ≤ 1048576)
    (hws : ∀ s ∈ segs, (Lit.int .i64 s).wf = true) (hwt : ∀ t ∈ tl, (Lit.int .i64 t.id).wf = true ∧ t.name.size ≤ maxLen) :
    Calls Tryd.prog 4 #[.slice A n cc, manV id ns nx mk cl (.slice A1 segs.length c) (.slice A2 prods.length d), catV nid (.slice A3 tl.length e)] w fun ee w' => ee = .returned (.bool true) ∧ Below w.heap.size w w' := by
  obtain ⟨i1, hi1, hz1, hs1, hy1⟩ := info_parts info_str
  have hr : ∀ W, Below w.heap.size w W → Rd W W.heap.size A (names.map Value.string) ∧ Rd W W.heap.size A1 (segs.map (.int .i64)) ∧ Rd W W.heap.size A2 (prods.flatMap tri) ∧ Rd W W.heap.size A3 (tl.flatMap quad) := fun W hb =>
    ⟨(hA.below hb).mono hb.size, (hA1.below hb).mono hb.size, (hA2.below hb).mono hb.size, (hA3.below hb).mono hb.size⟩
  have Hr := Lib.hid hr
  have hr2 : ∀ W, Below w.heap.size w W → Rd W (w.heap.size + 2) A1 (segs.map (.int .i64)) ∧ Rd W (w.heap.size + 2) A2 (prods.flatMap tri) ∧ Rd W (w.heap.size + 2) A3 (tl.flatMap quad) := fun W hb =>
    ⟨(hA1.below hb).mono (by omega), (hA2.below hb).mono (by omega), (hA3.below hb).mono (by omega)⟩
  have HrB := Lib.hid hr2
  have Hn := Lib.hid (And.intro hn hz)
  have Hws := Lib.hid hws
  have Hwt := Lib.hid hwt
  have EE := Lib.hid E
  have hb2 : Below w.heap.size w ((w.alloc (.cells #[.int .i64 id, .int .i64 ns, .int .i64 nx, .int .i64 mk, .int .i64 cl, .slice A1 segs.length c, .slice A2 prods.length d] 31)).alloc (.cells #[.int .i64 nid, .slice A3 tl.length e] 34)) := (Below.al _ _).alloc (by simp) _
  have hm2 : Box ((w.alloc (.cells #[.int .i64 id, .int .i64 ns, .int .i64 nx, .int .i64 mk, .int .i64 cl, .slice A1 segs.length c, .slice A2 prods.length d] 31)).alloc (.cells #[.int .i64 nid, .slice A3 tl.length e] 34)) w.heap.size 31 #[.int .i64 id, .int .i64 ns, .int .i64 nx, .int .i64 mk, .int .i64 cl, .slice A1 segs.length c, .slice A2 prods.length d] := (Box.new _ _ _).alloc _
  have hc2 : Box ((w.alloc (.cells #[.int .i64 id, .int .i64 ns, .int .i64 nx, .int .i64 mk, .int .i64 cl, .slice A1 segs.length c, .slice A2 prods.length d] 31)).alloc (.cells #[.int .i64 nid, .slice A3 tl.length e] 34)) (w.heap.size + 1) 34 #[.int .i64 nid, .slice A3 tl.length e] := by simpa using Box.new (w.alloc (.cells #[.int .i64 id, .int .i64 ns, .int .i64 nx, .int .i64 mk, .int .i64 cl, .slice A1 segs.length c, .slice A2 prods.length d] 31)) 34 #[.int .i64 nid, .slice A3 tl.length e]
  have H2 := Lib.hid (And.intro hb2 (And.intro hm2 (And.intro hc2 (SRow.nil ((w.alloc (.cells #[.int .i64 id, .int .i64 ns, .int .i64 nx, .int .i64 mk, .int .i64 cl, .slice A1 segs.length c, .slice A2 prods.length d] 31)).alloc (.cells #[.int .i64 nid, .slice A3 tl.length e] 34))))))
  obtain ⟨L, hL⟩ : ∃ L, (names.filter fun s => orphP id segs (parseB s)) = L := ⟨_, rfl⟩
  obtain ⟨m1, hm1⟩ : ∃ m1, L.length = m1 := ⟨_, rfl⟩
  obtain ⟨K, hK⟩ : ∃ L, (names.filter fun s => strP (tl.map T4.id) (parseB s)) = L := ⟨_, rfl⟩
  obtain ⟨m2, hmm2⟩ : ∃ m1, K.length = m1 := ⟨_, rfl⟩
  have hq1 : m1 ≤ 1048576 := by rw [← hm1, ← hL]; exact Nat.le_trans (List.length_filter_le _ _) (by omega)
  have hq2 : m2 ≤ 1048576 := by rw [← hmm2, ← hK]; exact Nat.le_trans (List.length_filter_le _ _) (by omega)
  have HL := Lib.hid (And.intro hL hm1)
  have HK := Lib.hid (And.intro hK hmm2)
  have hms : segs.length < maxLen := by unfold maxLen; omega
  have hmp : prods.length < maxLen := by unfold maxLen; omega
  have hml : tl.length < maxLen := by unfold maxLen; omega
  have Hm := Lib.hid (And.intro hms (And.intro hmp hml))
  clear hr hr2 hA hA1 hA2 hA3 hn hz hws hwt E hb2 hm2 hc2 hL hm1 hK hmm2 hms hmp hml
  go_enter Tryd.func4, Tryd.ntmps4
  go_wp2
  go_loopw [7, 8] (fun v i wr => ∃ k0 : Nat, k0 ≤ n ∧ i = .int .i64 k0 ∧ SRow ((w.alloc (.cells #[.int .i64 id, .int .i64 ns, .int .i64 nx, .int .i64 mk, .int .i64 cl, .slice A1 segs.length c, .slice A2 prods.length d] 31)).alloc (.cells #[.int .i64 nid, .slice A3 tl.length e] 34)) wr v (names.reverse.take k0)) (fun _ i _ => n - (intOf i).toNat)
  case atStart => exact ⟨0, Nat.zero_le _, rfl, by simpa using H2.out.2.2.2⟩
  case round =>
    obtain ⟨k0, hk, rfl, hR⟩ := hrel
    by_cases hlt : k0 < n
    · have hkl : k0 < names.length := by rw [Hn.out.1]; exact hlt
      have hkr : names.length - 1 - k0 < names.length := by omega
      obtain ⟨ad, rfl, hadb, p0⟩ := (Hr.out _ (H2.out.1.trans (hR.2.mono (by simp; omega)))).1.str hkr
      have HT := Lib.hid (rev_get hkl)
      generalize names[names.length - 1 - k0] = nm at p0 HT
      rw [Hn.out.1] at p0
      have hlm : (names.reverse.take k0).length ≤ k0 := by rw [List.length_take]; omega
      have hi0 : (0 : Int) ≤ (n : Int) - 1 - k0 := by omega
      have hi2 : (n : Int) - 1 - k0 < n := by omega
      have hi3 : ((n : Int) - 1 - k0).toNat = n - 1 - k0 := by omega
      have hk0 : (0 : Int) ≤ k0 := by omega
      have hk1 : (k0 : Int) < n := by omega
      have DS := Lib.hid hR
      clear hR hkl hkr
      go_wp2_with (at_builtin
                   have D3 := DS.out.next (Below.al wr (.cells #[.string nm] 9))
                   refine wpList_app _ rfl (.tmp 25) (.tmp 34) _ rfl ((w.alloc (.cells #[.int .i64 id, .int .i64 ns, .int .i64 nx, .int .i64 mk, .int .i64 cl, .slice A1 segs.length c, .slice A2 prods.length d] 31)).alloc (.cells #[.int .i64 nid, .slice A3 tl.length e] 34)).heap.size 9 i1 _ 1 16 Tryd.underlying27 hi1 hz1 hs1 hy1 rfl (by decide) _ _ _ rfl D3.1 _ _ 1 1 [.string nm] rfl rfl (rd_newB _ _ _ _ rfl) (by intro u hu; simp at hu; subst hu; rfl) (by unfold maxLen; omega) (by omega) D3.2.size ?_
                   intro v' w4 hown hg4 hor
                   have HG := Lib.hid (D3.grow hown hg4)
                   clear hown hg4 hor D3)
      go_roundw
      case rel => exact ⟨k0 + 1, by omega, by go_num, by rw [HT.out]; exact HG.out⟩
      case measure => simp [intOf]; omega
    · have hkn : k0 = n := by omega
      subst hkn
      have hrv : names.reverse.take k0 = names.reverse := List.take_of_length_le (by simp [Hn.out.1])
      rw [hrv] at hR
      have DS := Lib.hid hR
      have hrl : names.reverse.length = k0 := by simp [Hn.out.1]
      have HRL := Lib.hid hrl
      clear hR hlt hk hrv hrl
      go_wp2_with (first
        | (at_builtin
           have D3 := DS.out.next (Below.al wr (.cells #[.string ⟨#[47]⟩] 9))
           refine wpList_app _ rfl (.tmp 36) (.tmp 37) _ rfl ((w.alloc (.cells #[.int .i64 id, .int .i64 ns, .int .i64 nx, .int .i64 mk, .int .i64 cl, .slice A1 segs.length c, .slice A2 prods.length d] 31)).alloc (.cells #[.int .i64 nid, .slice A3 tl.length e] 34)).heap.size 9 i1 _ 1 16 Tryd.underlying27 hi1 hz1 hs1 hy1 rfl (by decide) _ _ _ rfl D3.1 _ _ 1 1 [.string ⟨#[47]⟩] rfl rfl (rd_newB _ _ _ _ rfl) (by intro u hu; simp at hu; subst hu; rfl) (by unfold maxLen; rw [HRL.out]; omega) (by rw [HRL.out]; omega) D3.2.size ?_
           intro v' w4 hown hg4 hor
           have hb4 := (D3.grow (p := ⟨#[47]⟩) hown hg4).2
           rw [HRL.out] at hown
           obtain ⟨G, cG, hv, hnc, hcm, hO⟩ := Own.of_row hown (by omega)
           subst hv
           have z4 := hb4.size
           simp at z4
           have hO4 : Own w4 (w.heap.size + 2) G 9 (names.reverse.map Value.string ++ [.string ⟨#[47]⟩]) := by simpa using hO
           have hm4 := H2.out.2.1.below hb4 (by simp; omega)
           have hc4 := H2.out.2.2.1.below hb4 (by simp)
           have hx1 := hm4.cell
           have hx2 := hc4.cell
           have hGn : (k0 : Int) ≤ cG := by omega
           have hGn1 : (k0 : Int) + 1 ≤ cG := by omega
           have hGn0 : (0 : Int) ≤ k0 := by omega
           have hGlt := hO4.lt
           have H4 := Lib.hid (And.intro (H2.out.1.trans (hb4.mono (by simp; omega))) (And.intro hm4 (And.intro hc4 (And.intro hO4 (And.intro hnc hGlt)))))
           unfold maxLen at hcm
           clear hown hg4 hor D3 hb4 hO hO4 hm4 hc4 hGlt hnc)
        | (go_at_call 9
           refine (copied_any id ns nx mk cl A1 A2 c d segs prods _ (Hr.out _ H4.out.1).2.1 (Hr.out _ H4.out.1).2.2.1 (by omega) (by omega)).mono ?_
           rintro ee1 w5 ⟨g, h, c1, d1, rfl, hb5, hg5, hh5, hgh, hcc, hdd⟩
           have z5 := hb5.size
           have o5 := H4.out.2.2.2.1.below hb5 H4.out.2.2.2.2.2
           have hl5 := H4.out.2.2.2.2.2
           clear hx1 hx2
           have hm5 := H4.out.2.1.below hb5 (by omega)
           have hc5 := H4.out.2.2.1.below hb5 (by omega)
           have hx1 := hm5.cell
           have hx2 := hc5.cell
           have hl1 : w.heap.size < w5.heap.size := by omega
           have hl2 : w.heap.size + 1 < w5.heap.size := by omega
           have H5 := Lib.hid (And.intro (H4.out.1.trans (hb5.mono (by omega))) (And.intro hm5 (And.intro hc5 (And.intro o5 (And.intro hg5 (And.intro hh5 (And.intro hgh (And.intro hcc (And.intro hdd hl5)))))))))
           clear hb5 hg5 hh5 hgh o5 hm5 hc5 hcc hdd hl5)
        | (go_at_call 10
           refine (copiedCat_any nid A3 e tl _ (Hr.out _ (H5.out.1.alloc (by omega) (.cells #[.int .i64 id, .int .i64 ns, .int .i64 nx, .int .i64 mk, .int .i64 cl, .slice (some ⟨g, 0, none⟩) segs.length c1, .slice (some ⟨h, 0, none⟩) prods.length d1] 31))).2.2.2 (by omega)).mono ?_
           rintro ee2 w6 ⟨k, e1, rfl, hb6, hk6, hee⟩
           have z6 := hb6.size
           simp only [World.size_alloc] at z6
           have y1 := (H5.out.2.1.alloc (.cells #[.int .i64 id, .int .i64 ns, .int .i64 nx, .int .i64 mk, .int .i64 cl, .slice (some ⟨g, 0, none⟩) segs.length c1, .slice (some ⟨h, 0, none⟩) prods.length d1] 31)).below hb6 (by simp; omega)
           have y2 := (H5.out.2.2.1.alloc (.cells #[.int .i64 id, .int .i64 ns, .int .i64 nx, .int .i64 mk, .int .i64 cl, .slice (some ⟨g, 0, none⟩) segs.length c1, .slice (some ⟨h, 0, none⟩) prods.length d1] 31)).below hb6 (by simp; omega)
           have y3 := (Box.new w5 31 #[.int .i64 id, .int .i64 ns, .int .i64 nx, .int .i64 mk, .int .i64 cl, .slice (some ⟨g, 0, none⟩) segs.length c1, .slice (some ⟨h, 0, none⟩) prods.length d1]).below hb6 (by simp)
           have y4 := (H5.out.2.2.2.1.alloc (.cells #[.int .i64 id, .int .i64 ns, .int .i64 nx, .int .i64 mk, .int .i64 cl, .slice (some ⟨g, 0, none⟩) segs.length c1, .slice (some ⟨h, 0, none⟩) prods.length d1] 31)).below hb6 (by have := H5.out.2.2.2.2.2.2.2.2.2; simp; omega)
           have y5 := (H5.out.2.2.2.2.1.alloc (.cells #[.int .i64 id, .int .i64 ns, .int .i64 nx, .int .i64 mk, .int .i64 cl, .slice (some ⟨g, 0, none⟩) segs.length c1, .slice (some ⟨h, 0, none⟩) prods.length d1] 31)).below hb6 (by have := H5.out.2.2.2.2.1.lt; simp; omega)
           have y6 := (H5.out.2.2.2.2.2.1.alloc (.cells #[.int .i64 id, .int .i64 ns, .int .i64 nx, .int .i64 mk, .int .i64 cl, .slice (some ⟨g, 0, none⟩) segs.length c1, .slice (some ⟨h, 0, none⟩) prods.length d1] 31)).below hb6 (by have := H5.out.2.2.2.2.2.1.lt; simp; omega)
           have hgl := H5.out.2.2.2.2.1.lt
           have hhl := H5.out.2.2.2.2.2.1.lt
           have hgB := H5.out.2.2.2.2.1.1
           have hhB := H5.out.2.2.2.2.2.1.1
           have hkl := hk6.lt
           have hkB := hk6.1
           have hGl := H5.out.2.2.2.2.2.2.2.2.2
           have hgh := H5.out.2.2.2.2.2.2.1
           simp only [World.size_alloc] at hkB
           have S6 : LS w #[.int .i64 id, .int .i64 ns, .int .i64 nx, .int .i64 mk, .int .i64 cl, .slice A1 segs.length c, .slice A2 prods.length d] #[.int .i64 nid, .slice A3 tl.length e] #[.int .i64 id, .int .i64 ns, .int .i64 nx, .int .i64 mk, .int .i64 cl, .slice (some ⟨g, 0, none⟩) segs.length c1, .slice (some ⟨h, 0, none⟩) prods.length d1] #[.int .i64 nid, .slice (some ⟨k, 0, none⟩) tl.length e1] w5.heap.size w6.heap.size g h k G (w6.heap.size + 1) segs prods tl names.reverse (w6.alloc (.cells #[.int .i64 nid, .slice (some ⟨k, 0, none⟩) tl.length e1] 34)) :=
             ⟨y1.alloc _, y2.alloc _, y3.alloc _, Box.new w6 _ _, (y5.alloc _).le (by omega), (y6.alloc _).le (by omega), (hk6.alloc _).le (by simp; omega), y4.alloc _, ((H5.out.1.alloc (by omega) (.cells #[.int .i64 id, .int .i64 ns, .int .i64 nx, .int .i64 mk, .int .i64 cl, .slice (some ⟨g, 0, none⟩) segs.length c1, .slice (some ⟨h, 0, none⟩) prods.length d1] 31)).trans (hb6.mono (by simp; omega))).alloc (by omega) _, by omega, by omega⟩
           have q1 := S6.m.cell
           have q2 := S6.c.cell
           have q3 := S6.n.cell
           have q4 := S6.d.cell
           have T0 := Lib.hid S6
           have HC := Lib.hid (And.intro H5.out.2.2.2.2.2.2.2.1 (And.intro H5.out.2.2.2.2.2.2.2.2.1 hee))
           have z7 : (w6.alloc (.cells #[.int .i64 nid, .slice (some ⟨k, 0, none⟩) tl.length e1] 34)).heap.size = w6.heap.size + 1 := by simp
           clear S6 y1 y2 y3 y4 y5 y6 hb6 hk6 hgl hhl hgB hhB hkl hkB hGl hgh hx1 hx2 hl1 hl2 hee)
        | (go_at_call 11
           have zt := T0
           clear zt
           refine (orphansG (some ⟨G, 0, none⟩) _ cG names.reverse _ T0.out.names HRL.out (by omega) (fun s hs => Hn.out.2 s (List.mem_reverse.1 hs)) id ns nx mk cl (some ⟨g, 0, none⟩) c1 segs.length _ _ _ rfl (EE.out.below T0.out.below) segs rfl T0.out.og.rd_pre Hws.out rfl (by omega)).mono ?_
           rintro ee1 v1 ⟨bx, cx, rfl, _, hb⟩
           have zz1 := hb.size
           have S1 := T0.out.next hb
           clear q1 q2 q3 q4
           have p10 := S1.m.cell
           have p11 := S1.c.cell
           have p12 := S1.n.cell
           have p13 := S1.d.cell
           have T1 := Lib.hid S1
           clear hb S1 T0)
        | (go_at_call 12
           have zt := T1
           clear zt
           refine (strangersG (some ⟨G, 0, none⟩) _ cG names.reverse _ T1.out.names HRL.out (by omega) (fun s hs => Hn.out.2 s (List.mem_reverse.1 hs)) nid (some ⟨k, 0, none⟩) e1 tl.length _ _ rfl (EE.out.below T1.out.below) tl rfl T1.out.ok.rd_pre (fun t ht => (Hwt.out t ht).1) rfl (by omega)).mono ?_
           rintro ee2 v2 ⟨bx, cx, rfl, _, hb⟩
           have zz2 := hb.size
           have S2 := T1.out.next hb
           clear p10 p11 p12 p13
           have p20 := S2.m.cell
           have p21 := S2.c.cell
           have p22 := S2.n.cell
           have p23 := S2.d.cell
           have T2 := Lib.hid S2
           clear hb S2 T1))
      have hrn : names.length = names.reverse.length := by simp
      go_loopw [11] (fun i wr => ∃ j : Nat, j ≤ k0 ∧ i = .int .i64 j ∧ LS w #[.int .i64 id, .int .i64 ns, .int .i64 nx, .int .i64 mk, .int .i64 cl, .slice A1 segs.length c, .slice A2 prods.length d] #[.int .i64 nid, .slice A3 tl.length e] #[.int .i64 id, .int .i64 ns, .int .i64 nx, .int .i64 mk, .int .i64 cl, .slice (some ⟨g, 0, none⟩) segs.length c1, .slice (some ⟨h, 0, none⟩) prods.length d1] #[.int .i64 nid, .slice (some ⟨k, 0, none⟩) tl.length e1] w5.heap.size w6.heap.size g h k G (w6.heap.size + 1) segs prods tl (mix names names.reverse j) wr ∧ w6.heap.size + 1 ≤ wr.heap.size) (fun i _ => k0 - (intOf i).toNat)
      case atStart => exact ⟨0, Nat.zero_le _, rfl, by rw [mix_zero]; exact T2.out, by omega⟩
      case round =>
        clear T2 p20 p21 p22 p23
        obtain ⟨j, hj, rfl, hS, hwz⟩ := hrel
        by_cases hlt : j < k0
        · have hjl : j < names.length := by rw [Hn.out.1]; exact hlt
          obtain ⟨ad, rfl, hadb, p0⟩ := (Hr.out _ hS.below).1.str hjl
          have hf := hS.ol.free
          have hGl := hS.ol.lt
          have hcl : j < (mix names names.reverse j).length := by rw [mix_len _ _ _ hrn (by omega)]; exact hjl
          have hcell := hS.ol.cell (i := j) (by simp; omega)
          have hset := hS.ol.set_ (i := j) (by simp; omega) (.string names[j])
          have HT := Lib.hid (mix_set names names.reverse j hrn hjl)
          have HS := Lib.hid hS
          have hset2 : Own (wr.setCell ⟨G, j, none⟩ (.string names[j])) (w.heap.size + 2) G 9 ((mix names names.reverse (j + 1)).map Value.string ++ [.string ⟨#[47]⟩]) := by
            rw [← HT.out, List.map_set]
            rw [List.set_append_left _ _ (by simpa using hcl)] at hset
            exact hset
          have HO := Lib.hid hset2
          generalize hcv : (((mix names names.reverse j).map Value.string ++ [Value.string ⟨#[47]⟩])[j]'(by simp; omega)) = cv at hcell
          generalize names[j] = nm at p0 HO
          have hj0 : (0 : Int) ≤ j := by omega
          have hj1 : (j : Int) < k0 := by omega
          clear hS hset hset2 hcv hcl hjl HT
          go_wp2
          go_roundw
          case rel => exact ⟨j + 1, by omega, by go_num, HS.out.row ((Chg.refl (fun x => x = G) _).setCell (.inl rfl) _) HO.out, by simpa using hwz⟩
          case measure => simp [intOf]; omega
        · have hjn : j = k0 := by omega
          subst hjn
          have hmx2 : mix names names.reverse j = names := mix_all _ _ _ (by rw [Hn.out.1]; exact Nat.le_refl _) (by simp [Hn.out.1])
          rw [hmx2] at hS
          have q1 := hS.m.cell
          have q2 := hS.c.cell
          have q3 := hS.n.cell
          have q4 := hS.d.cell
          have T2 := Lib.hid hS
          clear hS hmx2 hlt hrn
          go_wp2_with (first
            | (go_at_call 13
               have zt := T2
               clear zt
               refine (moved_any id ns nx mk cl g h c1 d1 segs prods _ _ _ _ T2.out.og T2.out.oh T2.out.far.1.1 (Nat.le_of_lt Hm.out.1) (Nat.le_of_lt Hm.out.2.1) Hws.out).mono ?_
               rintro ee3 v3 ⟨ss, ps, hls, hlp, hwss, rfl, og3, oh3, hc3⟩
               have zz3 := hc3.size
               have HM1 := Lib.hid (And.intro hls (And.intro hlp hwss))
               clear hls hlp hwss
               have S3 := T2.out.man hc3 og3 oh3
               clear q1 q2 q3 q4
               have p30 := S3.m.cell
               have p31 := S3.c.cell
               have p32 := S3.n.cell
               have p33 := S3.d.cell
               have T3 := Lib.hid S3
               clear hc3 S3 T2)
            | (go_at_call 11
               have zt := T3
               clear zt
               refine (orphansG (some ⟨G, 0, none⟩) _ cG names _ T3.out.names Hn.out.1 (by omega) Hn.out.2 id ns nx mk cl (some ⟨g, 0, none⟩) c1 segs.length _ _ _ rfl (EE.out.below T3.out.below) ss rfl T3.out.og.rd_pre HM1.out.2.2 HM1.out.1 (by omega)).mono ?_
               rintro ee4 v4 ⟨bx, cx, rfl, _, hb⟩
               have zz4 := hb.size
               have S4 := T3.out.next hb
               clear p30 p31 p32 p33
               have p40 := S4.m.cell
               have p41 := S4.c.cell
               have p42 := S4.n.cell
               have p43 := S4.d.cell
               have T4 := Lib.hid S4
               clear hb S4 T3)
            | (go_at_call 14
               have zt := T4
               clear zt
               refine (back_any id ns nx mk cl id ns nx mk cl g h c1 d1 A1 A2 c d segs ss prods ps _ _ _ _ T4.out.og T4.out.oh T4.out.far.1.1 (HrB.out _ T4.out.below).1 (HrB.out _ T4.out.below).2.1 (by omega) HM1.out.1.symm HM1.out.2.1.symm (Nat.le_of_lt Hm.out.1) (Nat.le_of_lt Hm.out.2.1)).mono ?_
               rintro ee5 v5 ⟨rfl, og3, oh3, hc3⟩
               have zz5 := hc3.size
               have S5 := T4.out.man hc3 og3 oh3
               clear p40 p41 p42 p43
               have p50 := S5.m.cell
               have p51 := S5.c.cell
               have p52 := S5.n.cell
               have p53 := S5.d.cell
               have T5 := Lib.hid S5
               clear hc3 S5 T4)
            | (go_at_call 15
               have zt := T5
               clear zt
               refine (movedCat_any nid k e1 tl _ _ _ T5.out.ok (Nat.le_of_lt Hm.out.2.2) Hwt.out).mono ?_
               rintro ee6 v6 ⟨ll, hll, hwl, rfl, ok3, hc3⟩
               have zz6 := hc3.size
               have HM2 := Lib.hid (And.intro hll hwl)
               clear hll hwl
               have S6 := T5.out.cat hc3 ok3
               clear p50 p51 p52 p53
               have p60 := S6.m.cell
               have p61 := S6.c.cell
               have p62 := S6.n.cell
               have p63 := S6.d.cell
               have T6 := Lib.hid S6
               clear hc3 S6 T5)
            | (go_at_call 12
               have zt := T6
               clear zt
               refine (strangersG (some ⟨G, 0, none⟩) _ cG names _ T6.out.names Hn.out.1 (by omega) Hn.out.2 nid (some ⟨k, 0, none⟩) e1 tl.length _ _ rfl (EE.out.below T6.out.below) ll rfl T6.out.ok.rd_pre (fun t ht => (HM2.out.2 t ht).1) HM2.out.1 (by omega)).mono ?_
               rintro ee7 v7 ⟨bx, cx, rfl, _, hb⟩
               have zz7 := hb.size
               have S7 := T6.out.next hb
               clear p60 p61 p62 p63
               have p70 := S7.m.cell
               have p71 := S7.c.cell
               have p72 := S7.n.cell
               have p73 := S7.d.cell
               have T7 := Lib.hid S7
               clear hb S7 T6)
            | (go_at_call 16
               have zt := T7
               clear zt
               refine (backCat_any nid nid k e1 e A3 tl ll _ _ _ T7.out.ok (HrB.out _ T7.out.below).2.2 (by omega) HM2.out.1.symm (Nat.le_of_lt Hm.out.2.2)).mono ?_
               rintro ee8 v8 ⟨rfl, ok3, hc3⟩
               have zz8 := hc3.size
               have S8 := T7.out.cat hc3 ok3
               clear p70 p71 p72 p73
               have p80 := S8.m.cell
               have p81 := S8.c.cell
               have p82 := S8.n.cell
               have p83 := S8.d.cell
               have T8 := Lib.hid S8
               clear hc3 S8 T7)
            | (go_at_call 11
               have zt := T8
               clear zt
               refine (orphansG (some ⟨G, 0, none⟩) _ cG names _ T8.out.names Hn.out.1 (by omega) Hn.out.2 id ns nx mk cl (some ⟨g, 0, none⟩) c1 segs.length _ L m1 HL.out.2 (EE.out.below T8.out.below) segs HL.out.1 T8.out.og.rd_pre Hws.out rfl (by omega)).mono ?_
               rintro ee9 v9 ⟨bGA, cGA, rfl, hrow, hb⟩
               have zz9 := hb.size
               have S9 := T8.out.next hb
               clear p80 p81 p82 p83
               have p90 := S9.m.cell
               have p91 := S9.c.cell
               have p92 := S9.n.cell
               have p93 := S9.d.cell
               have T9 := Lib.hid S9
               have GA_9 := Lib.hid hrow
               clear hb S9 T8 hrow)
            | (go_at_call 12
               have zt := T9
               clear zt
               refine (strangersG (some ⟨G, 0, none⟩) _ cG names _ T9.out.names Hn.out.1 (by omega) Hn.out.2 nid (some ⟨k, 0, none⟩) e1 tl.length K m2 HK.out.2 (EE.out.below T9.out.below) tl HK.out.1 T9.out.ok.rd_pre (fun t ht => (Hwt.out t ht).1) rfl (by omega)).mono ?_
               rintro ee10 v10 ⟨bGB, cGB, rfl, hrow, hb⟩
               have zz10 := hb.size
               have S10 := T9.out.next hb
               clear p90 p91 p92 p93
               have p100 := S10.m.cell
               have p101 := S10.c.cell
               have p102 := S10.n.cell
               have p103 := S10.d.cell
               have T10 := Lib.hid S10
               have GA_10 := Lib.hid (GA_9.out.next hb)
               have GB_10 := Lib.hid hrow
               clear hb S10 T9 GA_9 hrow)
            | (go_at_call 11
               have zt := T10
               clear zt
               refine (orphansG (some ⟨G, 0, none⟩) _ cG names _ T10.out.names Hn.out.1 (by omega) Hn.out.2 id ns nx mk cl (some ⟨g, 0, none⟩) c1 segs.length _ L m1 HL.out.2 (EE.out.below T10.out.below) segs HL.out.1 T10.out.og.rd_pre Hws.out rfl (by omega)).mono ?_
               rintro ee11 v11 ⟨bGC, cGC, rfl, hrow, hb⟩
               have zz11 := hb.size
               have S11 := T10.out.next hb
               clear p100 p101 p102 p103
               have p110 := S11.m.cell
               have p111 := S11.c.cell
               have p112 := S11.n.cell
               have p113 := S11.d.cell
               have T11 := Lib.hid S11
               have GA_11 := Lib.hid (GA_10.out.next hb)
               have GB_11 := Lib.hid (GB_10.out.next hb)
               have GC_11 := Lib.hid hrow
               clear hb S11 T10 GA_10 GB_10 hrow)
            | (go_at_call 12
               have zt := T11
               clear zt
               refine (strangersG (some ⟨G, 0, none⟩) _ cG names _ T11.out.names Hn.out.1 (by omega) Hn.out.2 nid (some ⟨k, 0, none⟩) e1 tl.length K m2 HK.out.2 (EE.out.below T11.out.below) tl HK.out.1 T11.out.ok.rd_pre (fun t ht => (Hwt.out t ht).1) rfl (by omega)).mono ?_
               rintro ee12 v12 ⟨bGD, cGD, rfl, hrow, hb⟩
               have zz12 := hb.size
               have S12 := T11.out.next hb
               clear p110 p111 p112 p113
               have p120 := S12.m.cell
               have p121 := S12.c.cell
               have p122 := S12.n.cell
               have p123 := S12.d.cell
               have T12 := Lib.hid S12
               have GA_12 := Lib.hid (GA_11.out.next hb)
               have GB_12 := Lib.hid (GB_11.out.next hb)
               have GC_12 := Lib.hid (GC_11.out.next hb)
               have GD_12 := Lib.hid hrow
               clear hb S12 T11 GA_11 GB_11 GC_11 hrow)
            | (go_at_call 18
               have zt := T12
               clear zt
               refine (orphansRG A _ cc names _ (Hr.out _ T12.out.below).1 Hn.out.1 (by omega) Hn.out.2 id ns nx mk cl A1 c segs.length _ L m1 HL.out.2 segs HL.out.1 (Hr.out _ T12.out.below).2.1 rfl (by omega)).mono ?_
               rintro ee13 v13 ⟨bGR1, cGR1, rfl, hrow, hb⟩
               have zz13 := hb.size
               have S13 := T12.out.next hb
               clear p120 p121 p122 p123
               have p130 := S13.m.cell
               have p131 := S13.c.cell
               have p132 := S13.n.cell
               have p133 := S13.d.cell
               have T13 := Lib.hid S13
               have GA_13 := Lib.hid (GA_12.out.next hb)
               have GB_13 := Lib.hid (GB_12.out.next hb)
               have GC_13 := Lib.hid (GC_12.out.next hb)
               have GD_13 := Lib.hid (GD_12.out.next hb)
               have GR1_13 := Lib.hid hrow
               clear hb S13 T12 GA_12 GB_12 GC_12 GD_12 hrow)
            | (go_at_call 17
               have zt := T13
               clear zt
               refine (sameNames_eq bGA bGR1 cGA cGR1 m1 L _ HL.out.2 GA_13.out.rd GR1_13.out.rd (by omega)).mono ?_
               rintro ee14 v14 ⟨rfl, hb⟩
               have zz14 := hb.size
               have S14 := T13.out.next hb
               clear p130 p131 p132 p133
               have p140 := S14.m.cell
               have p141 := S14.c.cell
               have p142 := S14.n.cell
               have p143 := S14.d.cell
               have T14 := Lib.hid S14
               have GA_14 := Lib.hid (GA_13.out.next hb)
               have GB_14 := Lib.hid (GB_13.out.next hb)
               have GC_14 := Lib.hid (GC_13.out.next hb)
               have GD_14 := Lib.hid (GD_13.out.next hb)
               have GR1_14 := Lib.hid (GR1_13.out.next hb)
               clear hb S14 T13 GA_13 GB_13 GC_13 GD_13 GR1_13)
            | (go_at_call 19
               have zt := T14
               clear zt
               refine (strangersRG A _ cc names _ (Hr.out _ T14.out.below).1 Hn.out.1 (by omega) Hn.out.2 nid A3 e tl.length K m2 HK.out.2 tl HK.out.1 (Hr.out _ T14.out.below).2.2.2 rfl (by omega)).mono ?_
               rintro ee15 v15 ⟨bGR2, cGR2, rfl, hrow, hb⟩
               have zz15 := hb.size
               have S15 := T14.out.next hb
               clear p140 p141 p142 p143
               have p150 := S15.m.cell
               have p151 := S15.c.cell
               have p152 := S15.n.cell
               have p153 := S15.d.cell
               have T15 := Lib.hid S15
               have GA_15 := Lib.hid (GA_14.out.next hb)
               have GB_15 := Lib.hid (GB_14.out.next hb)
               have GC_15 := Lib.hid (GC_14.out.next hb)
               have GD_15 := Lib.hid (GD_14.out.next hb)
               have GR2_15 := Lib.hid hrow
               clear hb S15 T14 GA_14 GB_14 GC_14 GD_14 hrow)
            | (go_at_call 17
               have zt := T15
               clear zt
               refine (sameNames_eq bGB bGR2 cGB cGR2 m2 K _ HK.out.2 GB_15.out.rd GR2_15.out.rd (by omega)).mono ?_
               rintro ee16 v16 ⟨rfl, hb⟩
               have zz16 := hb.size
               have S16 := T15.out.next hb
               clear p150 p151 p152 p153
               have p160 := S16.m.cell
               have p161 := S16.c.cell
               have p162 := S16.n.cell
               have p163 := S16.d.cell
               have T16 := Lib.hid S16
               have GA_16 := Lib.hid (GA_15.out.next hb)
               have GB_16 := Lib.hid (GB_15.out.next hb)
               have GC_16 := Lib.hid (GC_15.out.next hb)
               have GD_16 := Lib.hid (GD_15.out.next hb)
               have GR2_16 := Lib.hid (GR2_15.out.next hb)
               clear hb S16 T15 GA_15 GB_15 GC_15 GD_15 GR2_15)
            | (go_at_call 20
               have zt := T16
               clear zt
               refine (spoiltNames_any _ _ m1 cGA bGA L _ GA_16.out (by omega) (by omega)).mono ?_
               rintro ee17 v17 ⟨rfl, hc3⟩
               have zz17 := hc3.size
               have S17 := T16.out.spoil hc3 (by omega)
               clear p160 p161 p162 p163
               have p170 := S17.m.cell
               have p171 := S17.c.cell
               have p172 := S17.n.cell
               have p173 := S17.d.cell
               have T17 := Lib.hid S17
               have GB_17 := Lib.hid (GB_16.out.chg hc3 (by intro j h1 h2 h3; omega))
               have GC_17 := Lib.hid (GC_16.out.chg hc3 (by intro j h1 h2 h3; omega))
               have GD_17 := Lib.hid (GD_16.out.chg hc3 (by intro j h1 h2 h3; omega))
               clear hc3 S17 T16 GB_16 GC_16 GD_16)
            | (go_at_call 20
               have zt := T17
               clear zt
               refine (spoiltNames_any _ _ m2 cGB bGB K _ GB_17.out (by omega) (by omega)).mono ?_
               rintro ee18 v18 ⟨rfl, hc3⟩
               have zz18 := hc3.size
               have S18 := T17.out.spoil hc3 (by omega)
               clear p170 p171 p172 p173
               have p180 := S18.m.cell
               have p181 := S18.c.cell
               have p182 := S18.n.cell
               have p183 := S18.d.cell
               have T18 := Lib.hid S18
               have GC_18 := Lib.hid (GC_17.out.chg hc3 (by intro j h1 h2 h3; omega))
               have GD_18 := Lib.hid (GD_17.out.chg hc3 (by intro j h1 h2 h3; omega))
               clear hc3 S18 T17 GC_17 GD_17)
            | (go_at_call 11
               have zt := T18
               clear zt
               refine (orphansG (some ⟨G, 0, none⟩) _ cG names _ T18.out.names Hn.out.1 (by omega) Hn.out.2 id ns nx mk cl (some ⟨g, 0, none⟩) c1 segs.length _ L m1 HL.out.2 (EE.out.below T18.out.below) segs HL.out.1 T18.out.og.rd_pre Hws.out rfl (by omega)).mono ?_
               rintro ee19 v19 ⟨bGE, cGE, rfl, hrow, hb⟩
               have zz19 := hb.size
               have S19 := T18.out.next hb
               clear p180 p181 p182 p183
               have p190 := S19.m.cell
               have p191 := S19.c.cell
               have p192 := S19.n.cell
               have p193 := S19.d.cell
               have T19 := Lib.hid S19
               have GC_19 := Lib.hid (GC_18.out.next hb)
               have GD_19 := Lib.hid (GD_18.out.next hb)
               have GE_19 := Lib.hid hrow
               clear hb S19 T18 GC_18 GD_18 hrow)
            | (go_at_call 18
               have zt := T19
               clear zt
               refine (orphansRG A _ cc names _ (Hr.out _ T19.out.below).1 Hn.out.1 (by omega) Hn.out.2 id ns nx mk cl A1 c segs.length _ L m1 HL.out.2 segs HL.out.1 (Hr.out _ T19.out.below).2.1 rfl (by omega)).mono ?_
               rintro ee20 v20 ⟨bGR3, cGR3, rfl, hrow, hb⟩
               have zz20 := hb.size
               have S20 := T19.out.next hb
               clear p190 p191 p192 p193
               have p200 := S20.m.cell
               have p201 := S20.c.cell
               have p202 := S20.n.cell
               have p203 := S20.d.cell
               have T20 := Lib.hid S20
               have GC_20 := Lib.hid (GC_19.out.next hb)
               have GD_20 := Lib.hid (GD_19.out.next hb)
               have GE_20 := Lib.hid (GE_19.out.next hb)
               have GR3_20 := Lib.hid hrow
               clear hb S20 T19 GC_19 GD_19 GE_19 hrow)
            | (go_at_call 17
               have zt := T20
               clear zt
               refine (sameNames_eq bGC bGR3 cGC cGR3 m1 L _ HL.out.2 GC_20.out.rd GR3_20.out.rd (by omega)).mono ?_
               rintro ee21 v21 ⟨rfl, hb⟩
               have zz21 := hb.size
               have S21 := T20.out.next hb
               clear p200 p201 p202 p203
               have p210 := S21.m.cell
               have p211 := S21.c.cell
               have p212 := S21.n.cell
               have p213 := S21.d.cell
               have T21 := Lib.hid S21
               have GC_21 := Lib.hid (GC_20.out.next hb)
               have GD_21 := Lib.hid (GD_20.out.next hb)
               have GE_21 := Lib.hid (GE_20.out.next hb)
               have GR3_21 := Lib.hid (GR3_20.out.next hb)
               clear hb S21 T20 GC_20 GD_20 GE_20 GR3_20)
            | (go_at_call 19
               have zt := T21
               clear zt
               refine (strangersRG A _ cc names _ (Hr.out _ T21.out.below).1 Hn.out.1 (by omega) Hn.out.2 nid A3 e tl.length K m2 HK.out.2 tl HK.out.1 (Hr.out _ T21.out.below).2.2.2 rfl (by omega)).mono ?_
               rintro ee22 v22 ⟨bGR4, cGR4, rfl, hrow, hb⟩
               have zz22 := hb.size
               have S22 := T21.out.next hb
               clear p210 p211 p212 p213
               have p220 := S22.m.cell
               have p221 := S22.c.cell
               have p222 := S22.n.cell
               have p223 := S22.d.cell
               have T22 := Lib.hid S22
               have GD_22 := Lib.hid (GD_21.out.next hb)
               have GE_22 := Lib.hid (GE_21.out.next hb)
               have GR4_22 := Lib.hid hrow
               clear hb S22 T21 GD_21 GE_21 hrow)
            | (go_at_call 17
               have zt := T22
               clear zt
               refine (sameNames_eq bGD bGR4 cGD cGR4 m2 K _ HK.out.2 GD_22.out.rd GR4_22.out.rd (by omega)).mono ?_
               rintro ee23 v23 ⟨rfl, hb⟩
               have zz23 := hb.size
               have S23 := T22.out.next hb
               clear p220 p221 p222 p223
               have p230 := S23.m.cell
               have p231 := S23.c.cell
               have p232 := S23.n.cell
               have p233 := S23.d.cell
               have T23 := Lib.hid S23
               have GD_23 := Lib.hid (GD_22.out.next hb)
               have GE_23 := Lib.hid (GE_22.out.next hb)
               have GR4_23 := Lib.hid (GR4_22.out.next hb)
               clear hb S23 T22 GD_22 GE_22 GR4_22)
            | (go_at_call 18
               have zt := T23
               clear zt
               refine (orphansRG A _ cc names _ (Hr.out _ T23.out.below).1 Hn.out.1 (by omega) Hn.out.2 id ns nx mk cl A1 c segs.length _ L m1 HL.out.2 segs HL.out.1 (Hr.out _ T23.out.below).2.1 rfl (by omega)).mono ?_
               rintro ee24 v24 ⟨bGR5, cGR5, rfl, hrow, hb⟩
               have zz24 := hb.size
               have S24 := T23.out.next hb
               clear p230 p231 p232 p233
               have p240 := S24.m.cell
               have p241 := S24.c.cell
               have p242 := S24.n.cell
               have p243 := S24.d.cell
               have T24 := Lib.hid S24
               have GE_24 := Lib.hid (GE_23.out.next hb)
               have GR5_24 := Lib.hid hrow
               clear hb S24 T23 GE_23 hrow)
            | (go_at_call 17
               have zt := T24
               clear zt
               refine (sameNames_eq bGE bGR5 cGE cGR5 m1 L _ HL.out.2 GE_24.out.rd GR5_24.out.rd (by omega)).mono ?_
               rintro ee25 v25 ⟨rfl, hb⟩
               have zz25 := hb.size
               have S25 := T24.out.next hb
               clear p240 p241 p242 p243
               have p250 := S25.m.cell
               have p251 := S25.c.cell
               have p252 := S25.n.cell
               have p253 := S25.d.cell
               have T25 := Lib.hid S25
               have GE_25 := Lib.hid (GE_24.out.next hb)
               have GR5_25 := Lib.hid (GR5_24.out.next hb)
               clear hb S25 T24 GE_24 GR5_24)
            | (go_at_call 17
               have zt := T25
               clear zt
               refine (sameNames_eq (some ⟨G, 0, none⟩) A cG cc _ names _ Hn.out.1 T25.out.names (Hr.out _ T25.out.below).1 (by omega)).mono ?_
               rintro ee26 v26 ⟨rfl, hb⟩
               have zz26 := hb.size
               have S26 := T25.out.next hb
               clear p250 p251 p252 p253
               have p260 := S26.m.cell
               have p261 := S26.c.cell
               have p262 := S26.n.cell
               have p263 := S26.d.cell
               have hsl := S26.ol.tail (n := j) (by rw [List.length_map]; exact Hn.out.1) rfl
               have hfr := S26.ol.free
               have T26 := Lib.hid S26
               clear hb S26 T25)
            | (go_at_call 21
               have zt := T26
               clear zt
               refine (kept_any id ns nx mk cl g h c1 d1 A1 A2 c d segs prods _ _ _ T26.out.og T26.out.oh (Hr.out _ T26.out.below).2.1 (Hr.out _ T26.out.below).2.2.1 HC.out.1 HC.out.2.1 Hm.out.1 Hm.out.2.1).mono ?_
               rintro ee27 v27 ⟨rfl, hb⟩
               have zz27 := hb.size
               have S27 := T26.out.next hb
               clear p260 p261 p262 p263
               have p270 := S27.m.cell
               have p271 := S27.c.cell
               have p272 := S27.n.cell
               have p273 := S27.d.cell
               have T27 := Lib.hid S27
               clear hb S27 T26)
            | (go_at_call 22
               have zt := T27
               clear zt
               refine (keptCat_any nid k e1 A3 e tl _ _ T27.out.ok (Hr.out _ T27.out.below).2.2.2 HC.out.2.2 Hm.out.2.2).mono ?_
               rintro ee28 v28 ⟨rfl, hb⟩
               have zz28 := hb.size
               have S28 := T27.out.next hb
               clear p270 p271 p272 p273
               have p280 := S28.m.cell
               have p281 := S28.c.cell
               have p282 := S28.n.cell
               have p283 := S28.d.cell
               have T28 := Lib.hid S28
               clear hb S28 T27))
          go_ret
          exact ⟨rfl, T28.out.below⟩
end Go.Proofs.YtbmbgkgjlnookaaDoor
