import Derived.Test.YtociadicjbkjcaaKd21
import Derived.Test.YtociadicjbkjcaaKd17
/- KeydirMap: the law of the program, walked. -/
namespace Go.Proofs.Ytociadicjbkjcaa
open Go.RowKit Go.Maps

set_option maxRecDepth 100000 in
set_option maxHeartbeats 8000000 in
theorem keydirMap_any (A0 A1 : Option Addr) (n0 n1 c0 c1 : Nat) (l0 : List KE) (l1 : List ByteArray) (w : World)
    (h0 : Rd w w.heap.size A0 (l0.flatMap keC)) (h1 : Rd w w.heap.size A1 (l1.map Value.string))
    (e0 : l0.length = n0) (e1 : l1.length = n1) (b0 : n0 ≤ 2199023255552) (b1 : n1 ≤ 8796093022208)
    (z0 : ∀ x ∈ l0, x.1.size ≤ maxLen) (z1 : ∀ x ∈ l1, x.size ≤ maxLen) :
    Calls Try.prog 4 #[.slice A0 n0 c0, .slice A1 n1 c1] w fun e w' => e = .returned (.bool true) ∧ Below w.heap.size w w' := by
  have hr : ∀ W, Below w.heap.size w W → Rd W W.heap.size A0 (l0.flatMap keC) ∧ Rd W w.heap.size A0 (l0.flatMap keC) ∧ Rd W w.heap.size A1 (l1.map Value.string) := fun W hb =>
    ⟨(h0.below hb).mono hb.size, h0.below hb, h1.below hb⟩
  have Hr := Lib.hid hr
  have HE := Lib.hid (And.intro e0 e1)
  have HZ := Lib.hid (And.intro z0 z1)
  have hbl := build_len l0 n0 (by omega)
  rw [List.take_of_length_le (by omega)] at hbl
  clear h0 h1 hr e0 e1 z0 z1
  go_enter Try.func4, Try.ntmps4
  go_wp2_with (first
    | (go_at_call 18
       (with_reducible refine (laid_any A0 n0 c0 l0 w ?_ ?_ ?_ ?_).mono ?_)
       · exact (Hr.out _ (Below.refl _ _)).1
       · exact HE.out.1
       · omega
       · exact HZ.out.1
       rintro e w1 ⟨rfl, hd1, hb1⟩
       have H1 := Lib.hid (And.intro hd1 hb1)
       clear hd1 hb1))
  go_loopw [7] (fun i wr => ∃ (k : Nat), k ≤ n0 ∧ i = .int .i64 k ∧ DR wr w.heap.size (build l0) ∧ Below w.heap.size w wr) (fun i _ => n0 - (intOf i).toNat)
  case atStart => exact ⟨0, by omega, rfl, H1.out.1, H1.out.2⟩
  case round =>
    clear H1
    obtain ⟨k, hk, rfl, hd, hb⟩ := hrel
    have H := Lib.hid (And.intro hd hb)
    clear hd hb
    by_cases hlt : k < n0
    · have hkl : k < l0.length := by rw [HE.out.1]; exact hlt
      obtain ⟨ad, rfl, had, a0, a1, a2, a3, a4, a5, a6⟩ := (Hr.out _ H.out.2).2.1.ke hkl
      have hzk := HZ.out.1 _ (List.getElem_mem hkl)
      have hk0' : (0 : Int) ≤ k := by omega
      have hk1' : (k : Int) < n0 := by omega
      generalize hxx : l0[k] = x at a0 a1 a2 a3 a4 a5 a6 hzk
      have HXX := Lib.hid hxx
      clear hxx
      have hgl := getL_build x.1 l0
      generalize hoo : lastB x.1 l0 = o at hgl
      have HO := Lib.hid (And.intro hgl hoo)
      clear hgl hoo
      go_wp2_with (first
        | (go_at_call 14
           (with_reducible refine (get_one w.heap.size x.1 (build l0) _ ?_ ?_).mono ?_)
           · exact H.out.1
           · exact hzk
           rintro e w2 ⟨rfl, hb2⟩
           rw [HO.out.1]
           have hb2' := H.out.2.trans (hb2.mono H.out.2.size)
           have hrk := (Hr.out _ hb2').2.1.ke hkl
           rw [HXX.out] at hrk
           obtain ⟨ad2, e2, hbk, q0, q1, q2, q3, q4, q5, q6⟩ := hrk
           cases e2
           have hblk : (ad.add (k * 7)).block < w2.heap.size := by rw [add_block]; have := hb2'.size; omega
           have hx2 := Box.new w2 26 #[.int .i64 (oe o).seg, .int .i64 (oe o).at_, .int .i64 (oe o).size, .int .i64 (oe o).off, .int .i64 (oe o).time, .bool (oe o).tomb]
           have H2 := Lib.hid (And.intro ((H.out.1.next hb2).next (bal _ (.cells #[.int .i64 (oe o).seg, .int .i64 (oe o).at_, .int .i64 (oe o).size, .int .i64 (oe o).off, .int .i64 (oe o).time, .bool (oe o).tomb] 26))) (And.intro (hb2'.alloc hb2'.size (.cells #[.int .i64 (oe o).seg, .int .i64 (oe o).at_, .int .i64 (oe o).size, .int .i64 (oe o).off, .int .i64 (oe o).time, .bool (oe o).tomb] 26)) hx2))
           clear hb2 hb2' hbk hx2)
        | (go_at_call 13
           (with_reducible refine (last_one (some ad) n0 c0 x.1 l0 _ ?_ ?_ ?_ ?_).mono ?_)
           · exact (Hr.out _ H2.out.2.1).1
           · exact HE.out.1
           · omega
           · exact hzk
           rintro e w3 ⟨rfl, hb3⟩
           rw [HO.out.2]
           have hx3 := H2.out.2.2.below hb3 H2.out.2.2.lt
           have hxc := hx3.cell
           have hxf := hx3.free
           have hxl := hx3.lt
           have H3 := Lib.hid (And.intro (H2.out.1.next hb3) (H2.out.2.1.trans (hb3.mono H2.out.2.1.size)))
           clear hb3 hx3))
      go_roundw
      case rel => exact ⟨k + 1, by omega, by go_num, H3.out.1.next (bal _ _), H3.out.2.alloc H3.out.2.size _⟩
      case measure => simp [intOf]; omega
    · go_wp2
      go_loopw [12] (fun i wr => ∃ (k : Nat), k ≤ n1 ∧ i = .int .i64 k ∧ DR wr w.heap.size (remd (build l0) (l1.take k)) ∧ Below w.heap.size w wr) (fun i _ => n1 - (intOf i).toNat)
      case atStart => exact ⟨0, by omega, rfl, H.out.1, H.out.2⟩
      case round =>
        clear H hlt hk
        obtain ⟨k, hk, rfl, hd, hb⟩ := hrel
        have H := Lib.hid (And.intro hd hb)
        clear hd hb
        by_cases hlt : k < n1
        · have hkl : k < l1.length := by rw [HE.out.2]; exact hlt
          obtain ⟨ad, rfl, had, a0⟩ := (Hr.out _ H.out.2).2.2.str hkl
          have hzk := HZ.out.2 _ (List.getElem_mem hkl)
          have hk0' : (0 : Int) ≤ k := by omega
          have hk1' : (k : Int) < n1 := by omega
          generalize hxx : l1[k] = x at a0 hzk
          have HXX := Lib.hid hxx
          clear hxx
          have hgl := getL_build x l0
          generalize hoo : lastB x l0 = o at hgl
          have HO := Lib.hid (And.intro hgl hoo)
          clear hgl hoo
          go_upto_region 15 with (first
            | (go_at_call 13
               (with_reducible refine (last_one A0 n0 c0 x l0 _ ?_ ?_ ?_ ?_).mono ?_)
               · exact (Hr.out _ H.out.2).1
               · exact HE.out.1
               · omega
               · exact hzk
               rintro e w3 ⟨rfl, hb3⟩
               rw [HO.out.2]
               have hw3 := (H.out.1.next hb3).lt
               have hx3 := Box.new w3 26 #[.int .i64 (oe o).seg, .int .i64 (oe o).at_, .int .i64 (oe o).size, .int .i64 (oe o).off, .int .i64 (oe o).time, .bool (oe o).tomb]
               have H3 := Lib.hid (And.intro ((H.out.1.next hb3).next (bal _ (.cells #[.int .i64 (oe o).seg, .int .i64 (oe o).at_, .int .i64 (oe o).size, .int .i64 (oe o).off, .int .i64 (oe o).time, .bool (oe o).tomb] 26))) (And.intro ((H.out.2.trans (hb3.mono H.out.2.size)).alloc (H.out.2.trans (hb3.mono H.out.2.size)).size (.cells #[.int .i64 (oe o).seg, .int .i64 (oe o).at_, .int .i64 (oe o).size, .int .i64 (oe o).off, .int .i64 (oe o).time, .bool (oe o).tomb] 26)) hx3))
               clear hb3 hx3))
          go_wp2
          go_loopw [14, 15] (fun b i wr => ∃ (j : Nat), j ≤ k ∧ b = .bool (ob o && !hasB x (l1.take j)) ∧ i = .int .i64 j ∧ DR wr w.heap.size (remd (build l0) (l1.take k)) ∧ Below w.heap.size w wr ∧ Box wr w3.heap.size 26 #[.int .i64 (oe o).seg, .int .i64 (oe o).at_, .int .i64 (oe o).size, .int .i64 (oe o).off, .int .i64 (oe o).time, .bool (oe o).tomb]) (fun _ i _ => k - (intOf i).toNat)
          case atStart => exact ⟨0, by omega, by simp [hasB], rfl, H3.out.1, H3.out.2.1, H3.out.2.2⟩
          case round =>
            clear H H3
            obtain ⟨j, hj, rfl, rfl, hd, hb, hbx⟩ := hrel
            have H := Lib.hid (And.intro hd (And.intro hb hbx))
            clear hd hb hbx
            by_cases hjk : j < k
            · have hjl : j < l1.length := by omega
              obtain ⟨ad2, e2, had2, a0'⟩ := (Hr.out _ H.out.2.1).2.2.str hjl
              cases e2
              have hrk := (Hr.out _ H.out.2.1).2.2.str hkl
              rw [HXX.out] at hrk
              obtain ⟨ad3, e3, had3, a0''⟩ := hrk
              cases e3
              have hj0' : (0 : Int) ≤ j := by omega
              have hj1' : (j : Int) < k := by omega
              have hj2' : (j : Int) < n1 := by omega
              have hsn := hasB_snoc x (l1.take j) l1[j]
              rw [show l1.take j ++ [l1[j]] = l1.take (j + 1) by rw [List.take_add_one, List.getElem?_eq_getElem hjl, Option.toList_some]] at hsn
              generalize l1[j] = z at a0' hsn
              have HSN := Lib.hid hsn
              clear hsn
              by_cases hzx : z = x
              · subst hzx
                go_wp2
                go_quiet (fail)
                go_wp2
                go_roundw
                case rel => exact ⟨j + 1, by omega, by rw [HSN.out]; simp, by go_num, H.out.1.next (below_drewN (Below.refl _ _) _), below_drewN H.out.2.1 _, by exact H.out.2.2⟩
                case measure => simp [intOf]; omega
              · have hkn := key_ne hzx
                go_wp2
                go_quiet (fail)
                go_wp2
                go_roundw
                case rel => exact ⟨j + 1, by omega, by rw [HSN.out]; simp [hzx], by go_num, H.out.1.next (below_drewN (Below.refl _ _) _), below_drewN H.out.2.1 _, by exact H.out.2.2⟩
                case measure => simp [intOf]; omega
            · have ejk : k = j := by omega
              subst ejk
              clear hj hjk
              have hrk := (Hr.out _ H.out.2.1).2.2.str hkl
              rw [HXX.out] at hrk
              obtain ⟨ad3, e3, had3, a0'⟩ := hrk
              cases e3
              have hsb : Sorted (build l0) := by have := (build_get x l0 l0.length (Nat.le_refl _)).1; rwa [List.take_length] at this
              obtain ⟨r1, r2, r3⟩ := remd_get x hsb l1 k (by omega)
              rw [HO.out.1] at r3
              have hr1 := rstep_get r1 x x
              rw [if_pos rfl] at hr1
              have HR1 := Lib.hid hr1
              have hsr := remd_snoc (build l0) l1 k hkl
              rw [HXX.out] at hsr
              have HSR := Lib.hid hsr
              have HBX := Lib.hid H.out.2.2
              clear hr1 hsr hsb r1
              rcases (show (getL x (remd (build l0) (l1.take k)) = none ∧ (ob o && !hasB x (l1.take k)) = false) ∨ (∃ en, o = some en ∧ getL x (remd (build l0) (l1.take k)) = some en ∧ (ob o && !hasB x (l1.take k)) = true) by
                rw [r3]
                cases hasB x (l1.take k) with
                | true => exact .inl ⟨rfl, by simp⟩
                | false => cases o with
                  | none => exact .inl ⟨rfl, rfl⟩
                  | some en => exact .inr ⟨en, rfl, rfl, rfl⟩) with ⟨g1, g2⟩ | ⟨en, rfl, g1, g2⟩
              · rw [g2]
                have HR0 := Lib.hid g1
                clear g1 g2 r3
                go_wp2_with (first
                  | (go_at_call 19
                     (with_reducible refine (rem_one w.heap.size x (remd (build l0) (l1.take k)) _ ?_ ?_ ?_).mono ?_)
                     · exact H.out.1
                     · exact hzk
                     · omega
                     rintro e w4 ⟨rfl, hd4, hc4⟩
                     rw [HR0.out, show oe (none : Option En) = ⟨0, 0, 0, 0, 0, false⟩ from rfl, show ob (none : Option En) = false from rfl]
                     have hb4 := dch_below H.out.2.1 (Below.refl _ _) hc4 (Nat.le_refl _)
                     have hrk := (Hr.out _ hb4).2.2.str hkl
                     rw [HXX.out] at hrk
                     obtain ⟨ad3, e3, hbk, q0⟩ := hrk
                     cases e3
                     have hblk : (ad.add k).block < w4.heap.size := by rw [add_block]; have := hb4.size; omega
                     have hx4 := Box.new w4 26 #[.int .i64 0, .int .i64 0, .int .i64 0, .int .i64 0, .int .i64 0, .bool false]
                     have hw4 := hd4.lt
                     have H4 := Lib.hid (And.intro (hd4.next (bal _ (.cells #[.int .i64 0, .int .i64 0, .int .i64 0, .int .i64 0, .int .i64 0, .bool false] 26))) (And.intro (hb4.alloc hb4.size (.cells #[.int .i64 0, .int .i64 0, .int .i64 0, .int .i64 0, .int .i64 0, .bool false] 26)) (And.intro hx4 ((HBX.out.chg hc4 (by omega)).below (bal _ (.cells #[.int .i64 0, .int .i64 0, .int .i64 0, .int .i64 0, .int .i64 0, .bool false] 26)) (HBX.out.chg hc4 (by omega)).lt))))
                     clear hb4 hbk hx4 hd4 hc4)
                  | (go_at_call 14
                     (with_reducible refine (get_one w.heap.size x (rstep (remd (build l0) (l1.take k)) x) _ ?_ ?_).mono ?_)
                     · exact H4.out.1
                     · exact hzk
                     rintro e w5 ⟨rfl, hb5⟩
                     rw [HR1.out, show oe (none : Option En) = ⟨0, 0, 0, 0, 0, false⟩ from rfl, show ob (none : Option En) = false from rfl]
                     have hx5 := H4.out.2.2.1.below hb5 H4.out.2.2.1.lt
                     have hx6 := H4.out.2.2.2.below hb5 H4.out.2.2.2.lt
                     have hxc := hx5.cell
                     have hxf := hx5.free
                     have hxl := hx5.lt
                     have hyc := hx6.cell
                     have hyf := hx6.free
                     have hyl := hx6.lt
                     have H5 := Lib.hid (And.intro (H4.out.1.next hb5) (H4.out.2.1.trans (hb5.mono H4.out.2.1.size)))
                     clear hb5 hx5 hx6))
                go_roundw
                case rel => exact ⟨k + 1, by omega, by go_num, by rw [HSR.out]; exact H5.out.1.next (bal _ _), H5.out.2.alloc H5.out.2.size _⟩
                case measure => simp [intOf]; omega
              · rw [g2]
                rw [show oe (some en) = en from rfl] at HBX
                have HR0 := Lib.hid g1
                clear g1 g2 r3
                go_wp2_with (first
                  | (go_at_call 19
                     (with_reducible refine (rem_one w.heap.size x (remd (build l0) (l1.take k)) _ ?_ ?_ ?_).mono ?_)
                     · exact H.out.1
                     · exact hzk
                     · omega
                     rintro e w4 ⟨rfl, hd4, hc4⟩
                     rw [HR0.out, show oe (some en) = en from rfl, show ob (some en) = true from rfl]
                     have hb4 := dch_below H.out.2.1 (Below.refl _ _) hc4 (Nat.le_refl _)
                     have hrk := (Hr.out _ hb4).2.2.str hkl
                     rw [HXX.out] at hrk
                     obtain ⟨ad3, e3, hbk, q0⟩ := hrk
                     cases e3
                     have hblk : (ad.add k).block < w4.heap.size := by rw [add_block]; have := hb4.size; omega
                     have hx4 := Box.new w4 26 #[.int .i64 en.seg, .int .i64 en.at_, .int .i64 en.size, .int .i64 en.off, .int .i64 en.time, .bool en.tomb]
                     have hw4 := hd4.lt
                     have H4 := Lib.hid (And.intro (hd4.next (bal _ (.cells #[.int .i64 en.seg, .int .i64 en.at_, .int .i64 en.size, .int .i64 en.off, .int .i64 en.time, .bool en.tomb] 26))) (And.intro (hb4.alloc hb4.size (.cells #[.int .i64 en.seg, .int .i64 en.at_, .int .i64 en.size, .int .i64 en.off, .int .i64 en.time, .bool en.tomb] 26)) (And.intro hx4 ((HBX.out.chg hc4 (by omega)).below (bal _ (.cells #[.int .i64 en.seg, .int .i64 en.at_, .int .i64 en.size, .int .i64 en.off, .int .i64 en.time, .bool en.tomb] 26)) (HBX.out.chg hc4 (by omega)).lt))))
                     clear hb4 hbk hx4 hd4 hc4)
                  | (go_at_call 14
                     (with_reducible refine (get_one w.heap.size x (rstep (remd (build l0) (l1.take k)) x) _ ?_ ?_).mono ?_)
                     · exact H4.out.1
                     · exact hzk
                     rintro e w5 ⟨rfl, hb5⟩
                     rw [HR1.out, show oe (none : Option En) = ⟨0, 0, 0, 0, 0, false⟩ from rfl, show ob (none : Option En) = false from rfl]
                     have hx5 := H4.out.2.2.1.below hb5 H4.out.2.2.1.lt
                     have hx6 := H4.out.2.2.2.below hb5 H4.out.2.2.2.lt
                     have hxc := hx5.cell
                     have hxf := hx5.free
                     have hxl := hx5.lt
                     have hyc := hx6.cell
                     have hyf := hx6.free
                     have hyl := hx6.lt
                     have H5 := Lib.hid (And.intro (H4.out.1.next hb5) (H4.out.2.1.trans (hb5.mono H4.out.2.1.size)))
                     clear hb5 hx5 hx6))
                go_roundw
                case rel => exact ⟨k + 1, by omega, by go_num, by rw [HSR.out]; exact H5.out.1.next (bal _ _), H5.out.2.alloc H5.out.2.size _⟩
                case measure => simp [intOf]; omega
        · have ekn : l1.take k = l1 := List.take_of_length_le (by rw [HE.out.2]; omega)
          have H' := Lib.hid (And.intro (by have := H.out.1; rwa [ekn] at this : DR wr w.heap.size (remd (build l0) l1)) H.out.2)
          go_wp2
          go_loopw [20] (fun i wr => ∃ (k : Nat), k ≤ n0 ∧ i = .int .i64 k ∧ DR wr w.heap.size (remd (build l0) l1) ∧ Below w.heap.size w wr) (fun i _ => n0 - (intOf i).toNat)
          case atStart => exact ⟨0, by omega, rfl, H'.out.1, H'.out.2⟩
          case round =>
            clear H H' hlt hk ekn
            obtain ⟨k, hk, rfl, hd, hb⟩ := hrel
            have H := Lib.hid (And.intro hd hb)
            clear hd hb
            by_cases hlt : k < n0
            · have hkl : k < l0.length := by rw [HE.out.1]; exact hlt
              obtain ⟨ad, rfl, had, a0, a1, a2, a3, a4, a5, a6⟩ := (Hr.out _ H.out.2).2.1.ke hkl
              have hzk := HZ.out.1 _ (List.getElem_mem hkl)
              have hk0' : (0 : Int) ≤ k := by omega
              have hk1' : (k : Int) < n0 := by omega
              generalize hxx : l0[k] = x at a0 a1 a2 a3 a4 a5 a6 hzk
              have HXX := Lib.hid hxx
              clear hxx
              have hgl := getL_build x.1 l0
              generalize hoo : lastB x.1 l0 = o at hgl
              have HO := Lib.hid (And.intro hgl hoo)
              clear hgl hoo
              go_upto_region 28 with (first
                | (go_at_call 13
                   (with_reducible refine (last_one (some ad) n0 c0 x.1 l0 _ ?_ ?_ ?_ ?_).mono ?_)
                   · exact (Hr.out _ H.out.2).1
                   · exact HE.out.1
                   · omega
                   · exact hzk
                   rintro e w3 ⟨rfl, hb3⟩
                   rw [HO.out.2]
                   have hw3 := (H.out.1.next hb3).lt
                   have hx3 := Box.new w3 26 #[.int .i64 (oe o).seg, .int .i64 (oe o).at_, .int .i64 (oe o).size, .int .i64 (oe o).off, .int .i64 (oe o).time, .bool (oe o).tomb]
                   have H3 := Lib.hid (And.intro ((H.out.1.next hb3).next (bal _ (.cells #[.int .i64 (oe o).seg, .int .i64 (oe o).at_, .int .i64 (oe o).size, .int .i64 (oe o).off, .int .i64 (oe o).time, .bool (oe o).tomb] 26))) (And.intro ((H.out.2.trans (hb3.mono H.out.2.size)).alloc (H.out.2.trans (hb3.mono H.out.2.size)).size (.cells #[.int .i64 (oe o).seg, .int .i64 (oe o).at_, .int .i64 (oe o).size, .int .i64 (oe o).off, .int .i64 (oe o).time, .bool (oe o).tomb] 26)) hx3))
                   clear hb3 hx3))
              go_wp2
              go_loopw [22, 23] (fun b i wr => ∃ (j : Nat), j ≤ n1 ∧ b = .bool (ob o && !hasB x.1 (l1.take j)) ∧ i = .int .i64 j ∧ DR wr w.heap.size (remd (build l0) l1) ∧ Below w.heap.size w wr ∧ Box wr w3.heap.size 26 #[.int .i64 (oe o).seg, .int .i64 (oe o).at_, .int .i64 (oe o).size, .int .i64 (oe o).off, .int .i64 (oe o).time, .bool (oe o).tomb]) (fun _ i _ => n1 - (intOf i).toNat)
              case atStart => exact ⟨0, by omega, by simp [hasB], rfl, H3.out.1, H3.out.2.1, H3.out.2.2⟩
              case round =>
                clear H H3 a0 a1 a2 a3 a4 a5 a6
                obtain ⟨j, hj, rfl, rfl, hd, hb, hbx⟩ := hrel
                have H := Lib.hid (And.intro hd (And.intro hb hbx))
                clear hd hb hbx
                have hrk := (Hr.out _ H.out.2.1).2.1.ke hkl
                rw [HXX.out] at hrk
                obtain ⟨ad3, e3, had3, a0, a1, a2, a3, a4, a5, a6⟩ := hrk
                cases e3
                by_cases hjk : j < n1
                · have hjl : j < l1.length := by rw [HE.out.2]; omega
                  obtain ⟨ad2, rfl, had2, a0'⟩ := (Hr.out _ H.out.2.1).2.2.str hjl
                  have hj0' : (0 : Int) ≤ j := by omega
                  have hj2' : (j : Int) < n1 := by omega
                  have hsn := hasB_snoc x.1 (l1.take j) l1[j]
                  rw [show l1.take j ++ [l1[j]] = l1.take (j + 1) by rw [List.take_add_one, List.getElem?_eq_getElem hjl, Option.toList_some]] at hsn
                  generalize l1[j] = z at a0' hsn
                  have HSN := Lib.hid hsn
                  clear hsn
                  by_cases hzx : z = x.1
                  · rw [hzx] at a0' HSN
                    go_wp2
                    go_quiet (fail)
                    go_wp2
                    go_roundw
                    case rel => exact ⟨j + 1, by omega, by rw [HSN.out]; simp, by go_num, H.out.1.next (below_drewN (Below.refl _ _) _), below_drewN H.out.2.1 _, by exact H.out.2.2⟩
                    case measure => simp [intOf]; omega
                  · have hkn := key_ne hzx
                    go_wp2
                    go_quiet (fail)
                    go_wp2
                    go_roundw
                    case rel => exact ⟨j + 1, by omega, by rw [HSN.out]; simp [hzx], by go_num, H.out.1.next (below_drewN (Below.refl _ _) _), below_drewN H.out.2.1 _, by exact H.out.2.2⟩
                    case measure => simp [intOf]; omega
                · have ejk : l1.take j = l1 := List.take_of_length_le (by rw [HE.out.2]; omega)
                  rw [ejk]
                  have hsb : Sorted (build l0) := by have := (build_get x.1 l0 l0.length (Nat.le_refl _)).1; rwa [List.take_length] at this
                  obtain ⟨r1, r2, r3⟩ := remd_get x.1 hsb l1 l1.length (Nat.le_refl _)
                  rw [HO.out.1, List.take_length] at r3
                  have HBX := Lib.hid H.out.2.2
                  clear hsb r1 r2
                  rcases (show (getL x.1 (remd (build l0) l1) = none ∧ (ob o && !hasB x.1 l1) = false) ∨ (∃ en, o = some en ∧ getL x.1 (remd (build l0) l1) = some en ∧ (ob o && !hasB x.1 l1) = true) by
                    rw [r3]
                    cases hasB x.1 l1 with
                    | true => exact .inl ⟨rfl, by simp⟩
                    | false => cases o with
                      | none => exact .inl ⟨rfl, rfl⟩
                      | some en => exact .inr ⟨en, rfl, rfl, rfl⟩) with ⟨g1, g2⟩ | ⟨en, rfl, g1, g2⟩
                  · rw [g2]
                    have HR0 := Lib.hid g1
                    clear g1 g2 r3
                    go_wp2_with (first
                      | (go_at_call 14
                         (with_reducible refine (get_one w.heap.size x.1 (remd (build l0) l1) _ ?_ ?_).mono ?_)
                         · exact H.out.1
                         · exact hzk
                         rintro e w5 ⟨rfl, hb5⟩
                         rw [HR0.out, show oe (none : Option En) = ⟨0, 0, 0, 0, 0, false⟩ from rfl, show ob (none : Option En) = false from rfl]
                         have hx6 := HBX.out.below hb5 HBX.out.lt
                         have hyc := hx6.cell
                         have hyf := hx6.free
                         have hyl := hx6.lt
                         have H5 := Lib.hid (And.intro (H.out.1.next hb5) (H.out.2.1.trans (hb5.mono H.out.2.1.size)))
                         clear hb5 hx6))
                    go_roundw
                    case rel => exact ⟨k + 1, by omega, by go_num, H5.out.1.next (bal _ _), H5.out.2.alloc H5.out.2.size _⟩
                    case measure => simp [intOf]; omega
                  · rw [g2]
                    rw [show oe (some en) = en from rfl] at HBX
                    have HR0 := Lib.hid g1
                    clear g1 g2 r3
                    go_wp2_with (first
                      | (go_at_call 14
                         (with_reducible refine (get_one w.heap.size x.1 (remd (build l0) l1) _ ?_ ?_).mono ?_)
                         · exact H.out.1
                         · exact hzk
                         rintro e w5 ⟨rfl, hb5⟩
                         rw [HR0.out, show oe (some en) = en from rfl, show ob (some en) = true from rfl]
                         have hx6 := HBX.out.below hb5 HBX.out.lt
                         have hyc := hx6.cell
                         have hyf := hx6.free
                         have hyl := hx6.lt
                         have H5 := Lib.hid (And.intro (H.out.1.next hb5) (H.out.2.1.trans (hb5.mono H.out.2.1.size)))
                         clear hb5 hx6))
                    go_roundw
                    case rel => exact ⟨k + 1, by omega, by go_num, H5.out.1.next (bal _ _), H5.out.2.alloc H5.out.2.size _⟩
                    case measure => simp [intOf]; omega
            · go_wp2_with (first
                | (go_at_call 17
                   refine (head_any _).mono ?_
                   rintro e w9 ⟨rfl, hb9⟩
                   have H9 := Lib.hid (H.out.2.trans (hb9.mono H.out.2.size))
                   clear hb9))
              go_ret
              exact ⟨rfl, H9.out⟩
end Go.Proofs.Ytociadicjbkjcaa
