import Derived.Test.YtociadicjbkjcaaKd18
namespace Go.Proofs.Ytociadicjbkjcaa
open Go.RowKit Go.Maps

set_option maxRecDepth 100000 in
set_option maxHeartbeats 8000000 in
theorem keydirFrozen_any (A0 A1 A2 A3 : Option Addr) (n0 n1 n2 n3 c0 c1 c2 c3 : Nat) (l0 l1 l2 : List KE) (l3 : List ByteArray) (w : World)
    (h0 : Rd w w.heap.size A0 (l0.flatMap keC)) (h1 : Rd w w.heap.size A1 (l1.flatMap keC)) (h2 : Rd w w.heap.size A2 (l2.flatMap keC)) (h3 : Rd w w.heap.size A3 (l3.map Value.string))
    (e0 : l0.length = n0) (e1 : l1.length = n1) (e2 : l2.length = n2) (e3 : l3.length = n3) (b0 : n0 ≤ 2000000) (b1 : n1 ≤ 2000000) (b2 : n2 ≤ 2000000) (b3 : n3 ≤ 2000000)
    (z0 : ∀ x ∈ l0, x.1.size ≤ maxLen) (z1 : ∀ x ∈ l1, x.1.size ≤ maxLen) (z2 : ∀ x ∈ l2, x.1.size ≤ maxLen) (z3 : ∀ x ∈ l3, x.size ≤ maxLen) :
    Calls Try.prog 5 #[.slice A0 n0 c0, .slice A1 n1 c1, .slice A2 n2 c2, .slice A3 n3 c3] w fun e w' => e = .returned (.bool true) ∧ Below w.heap.size w w' := by
  have hr : ∀ W, Below w.heap.size w W → Rd W W.heap.size A0 (l0.flatMap keC) ∧ Rd W w.heap.size A1 (l1.flatMap keC) ∧ Rd W w.heap.size A2 (l2.flatMap keC) ∧ Rd W w.heap.size A3 (l3.map Value.string) := fun W hb =>
    ⟨(h0.below hb).mono hb.size, h1.below hb, h2.below hb, h3.below hb⟩
  have Hr := Lib.hid hr
  have HE := Lib.hid (And.intro e0 (And.intro e1 (And.intro e2 e3)))
  have HZ := Lib.hid (And.intro z0 (And.intro z1 (And.intro z2 z3)))
  have hbl := build_len l0 n0 (by omega)
  rw [List.take_of_length_le (by omega)] at hbl
  clear h0 h1 h2 h3 hr e0 e1 e2 e3 z0 z1 z2 z3
  go_enter Try.func5, Try.ntmps5
  go_wp2_with (first
    | (go_at_call 18
       (with_reducible refine (laid_any A0 n0 c0 l0 w ?_ ?_ ?_ ?_).mono ?_)
       · exact (Hr.out _ (Below.refl _ _)).1
       · exact HE.out.1
       · omega
       · exact HZ.out.1
       rintro e w1 ⟨rfl, hd1, hb1⟩
       have H1 := Lib.hid (And.intro hd1 hb1)
       clear hd1 hb1)
    | (go_at_call 18
       (with_reducible refine (laid_any A0 n0 c0 l0 w1 ?_ ?_ ?_ ?_).mono ?_)
       · exact (Hr.out _ H1.out.2).1
       · exact HE.out.1
       · omega
       · exact HZ.out.1
       rintro e w2 ⟨rfl, hd2, hb2⟩
       have H2 := Lib.hid (And.intro (H1.out.1.next hb2) (And.intro hd2 (And.intro (H1.out.2.trans (hb2.mono H1.out.2.size)) H1.out.1.lt)))
       clear hd2 hb2)
    | (go_at_call 18
       (with_reducible refine (laid_any A0 n0 c0 l0 w2 ?_ ?_ ?_ ?_).mono ?_)
       · exact (Hr.out _ H2.out.2.2.1).1
       · exact HE.out.1
       · omega
       · exact HZ.out.1
       rintro e w3 ⟨rfl, hd3, hb3⟩
       have H3 := Lib.hid (And.intro (H2.out.1.next hb3) (And.intro (H2.out.2.1.next hb3) (And.intro hd3 (And.intro (H2.out.2.2.1.trans (hb3.mono H2.out.2.2.1.size)) H2.out.2.1.lt))))
       clear hd3 hb3)
    | (go_at_call 20
       (with_reducible refine (freeze_any w.heap.size (build l0) w3 ?_).mono ?_)
       · exact H3.out.1
       rintro e w4 ⟨rfl, hd4, hb4⟩
       have hs : FS w w.heap.size w1.heap.size w2.heap.size w3.heap.size (build l0) (build l0) (build l0) (build l0) w4 := ⟨H3.out.1.next hb4, H3.out.2.1.next hb4, H3.out.2.2.1.next hb4, hd4, H3.out.2.2.2.1.trans (hb4.mono H3.out.2.2.2.1.size), by have := H1.out.2.size; have := H2.out.2.2.1.size; have := H3.out.2.2.2.1.size; omega,
         by have := H1.out.1.lt; have := H2.out.2.2.2; have := H2.out.2.1.lt; have := H3.out.2.2.2.2; have := H3.out.2.2.1.lt; have := H2.out.1.lt; have := H3.out.1.lt; have := H3.out.2.1.lt; omega⟩
       have HS := Lib.hid hs
       clear hd4 hb4 hs))
  -- LOOP
  clear H1 H2 H3
  go_loopw [16] (fun i wr => ∃ (k : Nat) (A B : List KE), k ≤ 2000000 ∧ i = .int .i64 k ∧ FS w w.heap.size w1.heap.size w2.heap.size w3.heap.size A A B B wr ∧ A.length ≤ n0 + k ∧ B.length ≤ n0 + 2 * k) (fun i _ => 2000000 - (intOf i).toNat)
  case atStart => exact ⟨0, build l0, build l0, by omega, rfl, HS.out, by omega, by omega⟩
  case round =>
    clear HS
    obtain ⟨k, A, B, hk, rfl, hS, hlA, hlB⟩ := hrel
    have HS := Lib.hid hS
    clear hS
    go_upto_region 10 with fail
    go_cut [62] (fun s62 wx => s62 = .bool (decide (k < n1 ∨ k < n2 ∨ k < n3)) ∧ FS w w.heap.size w1.heap.size w2.heap.size w3.heap.size A A B B wx)
    case first =>
      rcases (show k < n1 ∨ (¬ k < n1 ∧ k < n2) ∨ (¬ k < n1 ∧ ¬ k < n2 ∧ k < n3) ∨ (¬ k < n1 ∧ ¬ k < n2 ∧ ¬ k < n3) by omega) with y1 | ⟨y1, y2⟩ | ⟨y1, y2, y3⟩ | ⟨y1, y2, y3⟩
      all_goals
        go_wp2_with fail
        go_meet
        case rel => exact ⟨congrArg Value.bool (by rw [Bool.eq_iff_iff]; simp <;> omega), HS.out⟩
    case rest =>
      clear HS
      obtain ⟨rfl, hS⟩ := hcut
      have HS := Lib.hid hS
      clear hS
      by_cases hlt : k < n1 ∨ k < n2 ∨ k < n3
      · rw [decide_eq_true hlt]
        go_upto_if 68 with fail
        go_cut [] (fun wx => ∃ A' : List KE, FS w w.heap.size w1.heap.size w2.heap.size w3.heap.size A' A' B B wx ∧ A'.length ≤ n0 + k + 1)
        case first =>
          by_cases hk1 : k < n1
          · have hkl : k < l1.length := by rw [HE.out.2.1]; exact hk1
            obtain ⟨ad, rfl, had, a0, a1, a2, a3, a4, a5, a6⟩ := (Hr.out _ HS.out.below).2.1.ke hkl
            have hzk := HZ.out.2.1 _ (List.getElem_mem hkl)
            have hk0' : (0 : Int) ≤ k := by omega
            have hk1' : (k : Int) < n1 := by omega
            generalize hxx : l1[k] = x at a0 a1 a2 a3 a4 a5 a6 hzk
            have HXX := Lib.hid hxx
            clear hxx
            go_wp2
            go_still_tail 11, (by kernel_rfl)
            go_wp2_with (first
                | (go_at_call 21
                   (with_reducible refine (put_un w.heap.size x.1 x.2 A _ ?_ ?_ ?_).mono ?_)
                   · exact (HS.out.rd).next (Below.refl _ _).drew
                   · exact hzk
                   · omega
                   rintro e w5 ⟨⟨v5, rfl⟩, hd5, hc5⟩
                   have hs5 := (HS.out.next (Below.refl _ _).drew).ud hc5 hd5
                   have hrk := (Hr.out _ hs5.below).2.1.ke hkl
                   rw [HXX.out] at hrk
                   obtain ⟨ad2, e2, hbk, c0, c1, c2, c3, c4, c5, c6⟩ := hrk
                   cases e2
                   have HS5 := Lib.hid hs5
                   clear hs5 hd5 hc5 hbk))
            go_still_tail 11, (by kernel_rfl)
            go_wp2_with (first
                | (go_at_call 21
                   (with_reducible refine (put_un w1.heap.size x.1 x.2 A _ ?_ ?_ ?_).mono ?_)
                   · exact (HS5.out.rx).next (Below.refl _ _).drew
                   · exact hzk
                   · omega
                   rintro e w6 ⟨⟨v6, rfl⟩, hd6, hc6⟩
                   have hs6 := (HS5.out.next (Below.refl _ _).drew).ux hc6 hd6
                   have HS6 := Lib.hid hs6
                   clear hs6 hd6 hc6))
            go_meet
            case rel => exact ⟨bstep A (x.1, x.2), HS6.out, by have := bstep_len A (x.1, x.2); omega⟩
          · go_wp2_with fail
            go_meet
            case rel => exact ⟨A, HS.out, by omega⟩
        case rest =>
          clear HS
          obtain ⟨A', hS, hlA'⟩ := hcut
          have HS := Lib.hid hS
          clear hS hlA
          go_upto_if 96 with fail
          go_cut [] (fun wx => ∃ B' : List KE, FS w w.heap.size w1.heap.size w2.heap.size w3.heap.size A' A' B' B' wx ∧ B'.length ≤ n0 + 2 * k + 1)
          case first =>
           by_cases hk1 : k < n2
           · have hkl : k < l2.length := by rw [HE.out.2.2.1]; exact hk1
             obtain ⟨ad, rfl, had, a0, a1, a2, a3, a4, a5, a6⟩ := (Hr.out _ HS.out.below).2.2.1.ke hkl
             have hzk := HZ.out.2.2.1 _ (List.getElem_mem hkl)
             have hk0' : (0 : Int) ≤ k := by omega
             have hk1' : (k : Int) < n2 := by omega
             generalize hxx : l2[k] = x at a0 a1 a2 a3 a4 a5 a6 hzk
             have HXX := Lib.hid hxx
             clear hxx
             go_wp2
             go_still_tail 11, (by kernel_rfl)
             go_wp2_with (first
                 | (go_at_call 21
                    (with_reducible refine (put_un w3.heap.size x.1 x.2 B _ ?_ ?_ ?_).mono ?_)
                    · exact (HS.out.rf).next (Below.refl _ _).drew
                    · exact hzk
                    · omega
                    rintro e w5 ⟨⟨v5, rfl⟩, hd5, hc5⟩
                    have hs5 := (HS.out.next (Below.refl _ _).drew).uf hc5 hd5
                    have hrk := (Hr.out _ hs5.below).2.2.1.ke hkl
                    rw [HXX.out] at hrk
                    obtain ⟨ad2, e2, hbk, c0, c1, c2, c3, c4, c5, c6⟩ := hrk
                    cases e2
                    have HS5 := Lib.hid hs5
                    clear hs5 hd5 hc5 hbk))
             go_still_tail 11, (by kernel_rfl)
             go_wp2_with (first
                 | (go_at_call 21
                    (with_reducible refine (put_un w2.heap.size x.1 x.2 B _ ?_ ?_ ?_).mono ?_)
                    · exact (HS5.out.ry).next (Below.refl _ _).drew
                    · exact hzk
                    · omega
                    rintro e w6 ⟨⟨v6, rfl⟩, hd6, hc6⟩
                    have hs6 := (HS5.out.next (Below.refl _ _).drew).uy hc6 hd6
                    have HS6 := Lib.hid hs6
                    clear hs6 hd6 hc6))
             go_meet
             case rel => exact ⟨bstep B (x.1, x.2), HS6.out, by have := bstep_len B (x.1, x.2); omega⟩
           · go_wp2_with fail
             go_meet
             case rel => exact ⟨B, HS.out, by omega⟩
          case rest =>
           clear HS
           obtain ⟨B', hS, hlB'⟩ := hcut
           have HS := Lib.hid hS
           clear hS hlB
           by_cases hk1 : k < n3
           · have hkl : k < l3.length := by rw [HE.out.2.2.2]; exact hk1
             obtain ⟨ad, rfl, had, a0⟩ := (Hr.out _ HS.out.below).2.2.2.str hkl
             have hzk := HZ.out.2.2.2 _ (List.getElem_mem hkl)
             have hk0' : (0 : Int) ≤ k := by omega
             have hk1' : (k : Int) < n3 := by omega
             generalize hxx : l3[k] = x at a0 hzk
             have HXX := Lib.hid hxx
             clear hxx
             go_wp2_with (first
               | (go_at_call 19
                  (with_reducible refine (rem_un w.heap.size x A' _ ?_ ?_ ?_).mono ?_)
                  · exact HS.out.rd
                  · exact hzk
                  · omega
                  rintro e w5 ⟨⟨v5, rfl⟩, hd5, hc5⟩
                  have hs5 := HS.out.ud hc5 hd5
                  have hrk := (Hr.out _ hs5.below).2.2.2.str hkl
                  rw [HXX.out] at hrk
                  obtain ⟨ad2, e2, hbk, c5⟩ := hrk
                  cases e2
                  have HS5 := Lib.hid hs5
                  clear hs5 hd5 hc5 hbk)
               | (go_at_call 19
                  (with_reducible refine (rem_un w1.heap.size x A' _ ?_ ?_ ?_).mono ?_)
                  · exact HS5.out.rx
                  · exact hzk
                  · omega
                  rintro e w6 ⟨⟨v6, rfl⟩, hd6, hc6⟩
                  have hs6 := HS5.out.ux hc6 hd6
                  have hrk := (Hr.out _ hs6.below).2.2.2.str hkl
                  rw [HXX.out] at hrk
                  obtain ⟨ad2, e2, hbk, c6⟩ := hrk
                  cases e2
                  have HS6 := Lib.hid hs6
                  clear hs6 hd6 hc6 hbk)
               | (go_at_call 22
                  (with_reducible refine (point_un w3.heap.size x 1 77 88 B' _ ?_ ?_ ?_).mono ?_)
                  · exact HS6.out.rf
                  · exact hzk
                  · omega
                  rintro e w7 ⟨⟨v7, rfl⟩, hd7, hc7⟩
                  have hs7 := HS6.out.uf hc7 hd7
                  have hrk := (Hr.out _ hs7.below).2.2.2.str hkl
                  rw [HXX.out] at hrk
                  obtain ⟨ad2, e2, hbk, c7⟩ := hrk
                  cases e2
                  have HS7 := Lib.hid hs7
                  clear hs7 hd7 hc7 hbk)
               | (go_at_call 22
                  (with_reducible refine (point_un w2.heap.size x 1 77 88 B' _ ?_ ?_ ?_).mono ?_)
                  · exact HS7.out.ry
                  · exact hzk
                  · omega
                  rintro e w8 ⟨⟨v8, rfl⟩, hd8, hc8⟩
                  have hs8 := HS7.out.uy hc8 hd8
                  have HS8 := Lib.hid hs8
                  clear hs8 hd8 hc8))
             go_roundw
             case rel => exact ⟨k + 1, rstep A' x, pstep B' x 1 77 88, by omega, by go_num, HS8.out, by have := rstep_len A' x; omega, by have := pstep_len B' x 1 77 88; omega⟩
             case measure => simp [intOf]; omega
           · go_wp2_with fail
             go_roundw
             case rel => exact ⟨k + 1, A', B', by omega, by go_num, HS.out, by omega, by omega⟩
             case measure => simp [intOf]; omega
      · rw [decide_eq_false hlt]
        have HS20 := HS
        clear HS
        go_wp2_with (first
           | (go_at_call 16
              (with_reducible refine (range_dir w.heap.size A ⟨#[]⟩ ⟨#[]⟩ _ _ ?_ ?_ ?_ ?_ ?_ ?_).mono ?_)
              · exact HS20.out.rd
              · exact Nat.zero_le _
              · exact Nat.zero_le _
              · omega
              · first | omega | go_num
              · first | omega | go_num
              rintro e w21 ⟨v21, rfl, hw21, hb21⟩
              obtain ⟨A21, cap21, rfl, hr21⟩ := row_rd hw21
              have HR21 := Lib.hid (And.intro hr21 hb21.size)
              have HS21 := Lib.hid (HS20.out.next hb21)
              have HB21 := Lib.hid hb21
              clear hw21 hr21 hb21)
           | (go_at_call 16
              (with_reducible refine (range_dir w1.heap.size A ⟨#[]⟩ ⟨#[]⟩ _ _ ?_ ?_ ?_ ?_ ?_ ?_).mono ?_)
              · exact HS21.out.rx
              · exact Nat.zero_le _
              · exact Nat.zero_le _
              · omega
              · first | omega | go_num
              · first | omega | go_num
              rintro e w22 ⟨v22, rfl, hw22, hb22⟩
              obtain ⟨A22, cap22, rfl, hr22⟩ := row_rd hw22
              have HR22 := Lib.hid (And.intro hr22 hb22.size)
              have HS22 := Lib.hid (HS21.out.next hb22)
              have HB22 := Lib.hid hb22
              clear hw22 hr22 hb22)
           | (go_at_call 15
              (with_reducible refine (sameItems_eq A21 A22 _ cap21 cap22 ((sel ⟨#[]⟩ ⟨#[]⟩ A).take (((n0 : Int) + n1 + n2 + 1).toNat)) _ ?_ ?_ ?_ ?_).mono ?_)
              · exact (HR21.out.1.below HB22.out).mono HR22.out.2
              · exact HR22.out.1
              · rw [List.length_take]; omega
              · omega
              rintro e w23 ⟨rfl, hb23⟩
              have HS23 := Lib.hid (HS22.out.next hb23)
              clear hb23)
           | (go_at_call 16
              (with_reducible refine (range_dir w3.heap.size B ⟨#[]⟩ ⟨#[]⟩ _ _ ?_ ?_ ?_ ?_ ?_ ?_).mono ?_)
              · exact HS23.out.rf
              · exact Nat.zero_le _
              · exact Nat.zero_le _
              · omega
              · first | omega | go_num
              · first | omega | go_num
              rintro e w24 ⟨v24, rfl, hw24, hb24⟩
              obtain ⟨A24, cap24, rfl, hr24⟩ := row_rd hw24
              have HR24 := Lib.hid (And.intro hr24 hb24.size)
              have HS24 := Lib.hid (HS23.out.next hb24)
              have HB24 := Lib.hid hb24
              clear hw24 hr24 hb24)
           | (go_at_call 16
              (with_reducible refine (range_dir w2.heap.size B ⟨#[]⟩ ⟨#[]⟩ _ _ ?_ ?_ ?_ ?_ ?_ ?_).mono ?_)
              · exact HS24.out.ry
              · exact Nat.zero_le _
              · exact Nat.zero_le _
              · omega
              · first | omega | go_num
              · first | omega | go_num
              rintro e w25 ⟨v25, rfl, hw25, hb25⟩
              obtain ⟨A25, cap25, rfl, hr25⟩ := row_rd hw25
              have HR25 := Lib.hid (And.intro hr25 hb25.size)
              have HS25 := Lib.hid (HS24.out.next hb25)
              have HB25 := Lib.hid hb25
              clear hw25 hr25 hb25)
           | (go_at_call 15
              (with_reducible refine (sameItems_eq A24 A25 _ cap24 cap25 ((sel ⟨#[]⟩ ⟨#[]⟩ B).take (((n0 : Int) + n1 + n2 + 1).toNat)) _ ?_ ?_ ?_ ?_).mono ?_)
              · exact (HR24.out.1.below HB25.out).mono HR25.out.2
              · exact HR25.out.1
              · rw [List.length_take]; omega
              · omega
              rintro e w26 ⟨rfl, hb26⟩
              have HS26 := Lib.hid (HS25.out.next hb26)
              clear hb26)
           | (go_at_call 23
              (with_reducible refine (len_any w.heap.size A _ ?_).mono ?_)
              · exact HS26.out.rd
              rintro e w' ⟨rfl, rfl⟩)
           | (go_at_call 23
              (with_reducible refine (len_any w1.heap.size A _ ?_).mono ?_)
              · exact HS26.out.rx
              rintro e w' ⟨rfl, rfl⟩)
           | (go_at_call 23
              (with_reducible refine (len_any w3.heap.size B _ ?_).mono ?_)
              · exact HS26.out.rf
              rintro e w' ⟨rfl, rfl⟩)
           | (go_at_call 23
              (with_reducible refine (len_any w2.heap.size B _ ?_).mono ?_)
              · exact HS26.out.ry
              rintro e w' ⟨rfl, rfl⟩)
           | (go_at_call 17
              refine (head_any _).mono ?_
              rintro e w30 ⟨rfl, hb30⟩
              have HS30 := Lib.hid (HS26.out.next hb30)
              clear hb30))
        go_ret
        exact ⟨rfl, HS30.out.below⟩
end Go.Proofs.Ytociadicjbkjcaa
