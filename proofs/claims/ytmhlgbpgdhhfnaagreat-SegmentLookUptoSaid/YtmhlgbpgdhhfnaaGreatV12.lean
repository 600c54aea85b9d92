import Derived.Test.YtmhlgbpgdhhfnaaGreatV11
set_option linter.unusedVariables false
set_option linter.unusedSimpArgs false
namespace Go.Proofs.YtmhlgbpgdhhfnaaGreat
open Go.RowKit Go.Maps Sqz

/-! chronicleref2.Expand -/
set_option maxRecDepth 100000 in
set_option maxHeartbeats 4000000 in
theorem expandR_any (A : Option Addr) (n c : Nat) (ts : List Tok) (w : World) (hT : TRow w w.heap.size A ts) (hn : ts.length = n) (hmx : n ≤ 1000000000) (hsm : ∀ k ∈ ts, k.lit.length ≤ 1000000000 ∧ k.dist ≤ 1000000000 ∧ k.len ≤ 1000000000) :
    Calls Tryz.prog 56 #[.slice A n c] w fun e w' => ExA w w' (expandL ts []) e ∧ Below w.heap.size w w' := by
  obtain ⟨i0, hi0, hz0, hs0, hy0⟩ := info_parts info_u8
  have HT := Lib.hid hT
  have Hn := Lib.hid hn
  have Hsm := Lib.hid hsm
  clear hT hn hsm
  generalize hR : expandL ts [] = R
  have HR := Lib.hid hR
  clear hR
  go_enter Tryz.func56, Tryz.ntmps56
  go_wp2
  go_loopw [4, 5] (fun u s wr => ∃ (j : Nat) (x : List UInt8) (m : Nat), j ≤ n ∧ s = .int .i64 j ∧ x.length = m ∧ m ≤ 4096 ∧ wr.ownsRow w.heap.size 5 1 u m (bv x) ∧ Below w.heap.size w wr ∧ expandL (ts.drop j) x = R) (fun _ s _ => n - (intOf s).toNat)
  case atStart => exact ⟨0, [], 0, Nat.zero_le _, rfl, rfl, by omega, World.ownsRow_nil _ _ _ _, Below.refl _ _, HR.out⟩
  case round =>
    obtain ⟨j, x, m, hj, rfl, hxm, hm4, hrow, hb, hex⟩ := hrel
    obtain ⟨vb, vc, rfl⟩ := ownsRow_slice hrow
    by_cases hlt : j < n
    · have hjl : j < ts.length := by rw [Hn.out]; exact hlt
      rw [drop_next hjl] at hex
      obtain ⟨ad, lA, lc, rfl, had, p0, p1, p2, hL⟩ := HT.out.at_ hjl
      obtain ⟨h1, h2, h3⟩ := Hsm.out _ (List.getElem_mem hjl)
      generalize ts[j] = k at *
      obtain ⟨lit, d, l⟩ := k
      simp only at *
      obtain ⟨q, hq⟩ : ∃ q, lit.length = q := ⟨_, rfl⟩
      rw [hq] at p0 h1
      have hadb : (ad.add (j * 3)).block < w.heap.size := by rw [add_block]; exact had
      have HPW : Hid (∀ W : World, Below w.heap.size w W → W.cell? (ad.add (j * 3)) = some (.slice lA q lc) ∧ W.cell? ⟨(ad.add (j * 3)).block, (ad.add (j * 3)).off + 1, none⟩ = some (.int .i64 d) ∧ W.cell? ⟨(ad.add (j * 3)).block, (ad.add (j * 3)).off + 2, none⟩ = some (.int .i64 l)) :=
        fun W hW => ⟨(hW.cell hadb).trans p0, (hW.cell (p := ⟨(ad.add (j * 3)).block, (ad.add (j * 3)).off + 1, none⟩) hadb).trans p1, (hW.cell (p := ⟨(ad.add (j * 3)).block, (ad.add (j * 3)).off + 2, none⟩) hadb).trans p2⟩
      clear p0 p1 p2
      obtain ⟨p0, p1, p2⟩ := HPW.out wr hb
      have HX := Lib.hid hex
      have HL := Lib.hid hL
      have HROW := Lib.hid (And.intro hrow hb)
      have Hq := Lib.hid hq
      have Hxm := Lib.hid hxm
      have HADB := Lib.hid hadb
      clear hex hL hrow hq hxm hadb
      have HRT0 : rgt q d l m = rightT ⟨lit, d, l⟩ m := by rw [← Hq.out]; exact rgt_tok ⟨lit, d, l⟩ m
      have r1 : IntKind.i64.wrap ((m : Int) + q) = (m : Int) + q := IntWalk.i64_in _ (by omega)
      have r2 : IntKind.i64.wrap ((m : Int) + q + l) = (m : Int) + q + l := IntWalk.i64_in _ (by omega)
      by_cases hr : rightT ⟨lit, d, l⟩ m = true
      · have HRT : Hid (rgt q d l m = true) := HRT0.trans hr
        have HX2 : Hid ((if 4096 < m + q + l then none else expandL (ts.drop (j + 1)) (addT d l (x ++ lit))) = R) := by
          show _ = _
          rw [← HX.out, expandL]; simp only [Hxm.out, Hq.out]; rw [if_pos hr]
        have hrd : 0 < l → 1 ≤ d ∧ d ≤ m := by
          intro hl
          unfold rightT at hr
          split at hr
          · have := of_decide_eq_true hr; simp only at this; omega
          have := of_decide_eq_true hr; simp only at this; omega
        clear HX hr HRT0
        by_cases hbig : 4096 < m + q + l
        · have HE : Hid (R = none) := by show _ = _; rw [← HX2.out, if_pos hbig]
          have g1 : decide (4096 < (m : Int) + q + l) = true := decide_eq_true (by omega)
          go_wp2_with (first
            | (go_at_call 80
               refine (rightR_any lA lc q d l m _ h1 h2 h3 (by omega)).mono ?_
               rintro e w1 ⟨rfl, hb1⟩
               rw [HRT.out]
               obtain ⟨p0, p1, p2⟩ := HPW.out w1 (HROW.out.2.trans (hb1.mono HROW.out.2.size))
               have HB1 := Lib.hid hb1
               clear hb1))
          go_quiet (fail)
          go_wp2
          go_ret2
          refine ⟨?_, below_drewN (HROW.out.2.trans (HB1.out.mono HROW.out.2.size)) _⟩
          rw [HE.out]
          exact ⟨2, by decide, rfl⟩
        have HX3 : Hid (expandL (ts.drop (j + 1)) (addT d l (x ++ lit)) = R) := by show _ = _; rw [← HX2.out, if_neg hbig]
        have g1 : decide (4096 < (m : Int) + q + l) = false := decide_eq_false (by omega)
        clear HX2
        go_wp2_with (first
          | (go_at_call 80
             refine (rightR_any lA lc q d l m _ h1 h2 h3 (by omega)).mono ?_
             rintro e w1 ⟨rfl, hb1⟩
             rw [HRT.out]
             obtain ⟨p0, p1, p2⟩ := HPW.out w1 (HROW.out.2.trans (hb1.mono HROW.out.2.size))
             have HB1 := Lib.hid hb1
             clear hb1))
        go_quiet (fail)
        have hb2 : Below wr.heap.size wr (w1.drewN nq) := below_drewN HB1.out nq
        generalize World.drewN w1 nq = w2 at *
        obtain ⟨p0, p1, p2⟩ := HPW.out w2 (HROW.out.2.trans (hb2.mono HROW.out.2.size))
        have HROW2 := Lib.hid (And.intro (ownsRow_below HROW.out.1 hb2) (HROW.out.2.trans (hb2.mono HROW.out.2.size)))
        clear hb2
        go_wp2
        go_loopw [4, 7] (fun u s wz => ∃ k : Nat, k ≤ q ∧ s = .int .i64 k ∧ wz.ownsRow w.heap.size 5 1 u (m + k) (bv (x ++ lit.take k)) ∧ Below w.heap.size w wz) (fun _ s _ => q - (intOf s).toNat)
        case atStart => exact ⟨0, Nat.zero_le _, rfl, by simpa using HROW2.out.1, HROW2.out.2⟩
        case round =>
          clear p0 p1 p2
          obtain ⟨k, hk, rfl, hrow, hb⟩ := hrel
          obtain ⟨vb2, vc2, rfl⟩ := ownsRow_slice hrow
          obtain ⟨p0, p1, p2⟩ := HPW.out wr hb
          have hbs := hb.size
          have HZ := Lib.hid (And.intro hrow hb)
          clear hrow
          by_cases hkq : k < q
          · have g3 : k < lit.length := by rw [Hq.out]; exact hkq
            obtain ⟨la, rfl, hla, q0⟩ := (HL.out.below hb) k (.int .u8 (lit[k]'g3).toNat) (by simp [bv, g3])
            have HTK : Hid (bv (x ++ lit.take (k + 1)) = bv (x ++ lit.take k) ++ [.int .u8 (lit[k]'g3).toNat]) := by
              show _ = _
              rw [List.take_succ_eq_append_getElem g3, ← List.append_assoc, bv_app]
              rfl
            generalize (lit[k]'g3).toNat = y at q0 HTK
            clear hb
            go_wp2_with (first
              | (at_builtin
                 refine wpList_app _ rfl (.tmp 50) (.tmp 59) _ rfl w.heap.size 5 i0 _ 1 1 Tryz.underlying22 hi0 hz0 hs0 hy0 rfl (by omega) (.slice vb2 (m + k) vc2) (m + k) _ rfl (HZ.out.1.alloc _) _ _ 1 1 _ rfl rfl (rd_new _ _ _) (by simp [Value.oneCell']) (by unfold maxLen; omega) (by omega) (by simp <;> omega) ?_
                 intro v3 w3 hown hg _
                 have hb3 := (HZ.out.2.alloc hbs (.cells #[.int .u8 (y : Nat)] 5)).grown hg (by simp <;> omega) (fun j e => (HZ.out.1.lt j e).1)
                 have H3 := Lib.hid (And.intro hown hb3)
                 clear hown hg hb3))
            go_roundw
            case rel => exact ⟨k + 1, by omega, by go_num, by rw [HTK.out]; exact H3.out.1, H3.out.2⟩
            case measure => simp [intOf]; omega
          obtain rfl : k = q := by omega
          have HTK : Hid (lit.take k = lit) := List.take_of_length_le (by rw [Hq.out]; exact Nat.le_refl _)
          clear hb
          go_wp2
          go_loopw [4, 8] (fun u s wz => ∃ i : Nat, i ≤ l ∧ s = .int .i64 i ∧ wz.ownsRow w.heap.size 5 1 u (m + k + i) (bv (addT d i (x ++ lit))) ∧ Below w.heap.size w wz) (fun _ s _ => l - (intOf s).toNat)
          case atStart => exact ⟨0, Nat.zero_le _, rfl, by have := HZ.out.1; rw [HTK.out] at this; exact this, HZ.out.2⟩
          case round =>
            clear p0 p1 p2
            obtain ⟨i, hi, rfl, hrow, hb⟩ := hrel
            obtain ⟨vb3, vc3, rfl⟩ := ownsRow_slice hrow
            obtain ⟨p0, p1, p2⟩ := HPW.out wr hb
            have hbs3 := hb.size
            have hlen : (addT d i (x ++ lit)).length = m + k + i := by rw [addT_len, List.length_append, Hxm.out, Hq.out]
            by_cases hil : i < l
            · have hdd := hrd (by omega)
              obtain ⟨y, hy⟩ : ∃ y, (addT d i (x ++ lit)).getD (m + k + i - d) 0 = y := ⟨_, rfl⟩
              have HY : Hid (addT d (i + 1) (x ++ lit) = addT d i (x ++ lit) ++ [y]) := by show _ = _; rw [addT_snoc, hlen, hy]
              obtain ⟨ra, era, _, q0⟩ := ownsRow_rd hrow (m + k + i - d) (.int .u8 y.toNat) (by
                have h1 : m + k + i - d < (addT d i (x ++ lit)).length := by omega
                rw [List.getD_eq_getElem?_getD, List.getElem?_eq_getElem h1] at hy
                simp only [Option.getD_some] at hy
                simp [bv, h1, hy])
              subst era
              have HZ3 := Lib.hid (And.intro hrow hb)
              clear hrow hb hy hlen
              generalize addT d i (x ++ lit) = z at HY HZ3
              have hyl := y.toNat_lt
              have f1 : ((m : Int) + k + i - d).toNat = m + k + i - d := by omega
              go_wp2_with (first
                | (at_builtin
                   refine wpList_app _ rfl (.tmp 70) (.tmp 82) _ rfl w.heap.size 5 i0 _ 1 1 Tryz.underlying22 hi0 hz0 hs0 hy0 rfl (by omega) (.slice (some ra) (m + k + i) vc3) (m + k + i) _ rfl (HZ3.out.1.alloc _) _ _ 1 1 _ rfl rfl (rd_new _ _ _) (by simp [Value.oneCell']) (by unfold maxLen; omega) (by omega) (by simp <;> omega) ?_
                   intro v4 w4 hown hg _
                   have hb4 := (HZ3.out.2.alloc hbs3 (.cells #[.int .u8 y.toNat] 5)).grown hg (by simp <;> omega) (fun j e => (HZ3.out.1.lt j e).1)
                   have H4 := Lib.hid (And.intro hown hb4)
                   clear hown hg hb4))
              go_roundw
              case rel =>
                refine ⟨i + 1, by omega, by go_num, ?_, H4.out.2⟩
                rw [HY.out, bv_app]
                exact H4.out.1
              case measure => simp [intOf]; omega
            obtain rfl : i = l := by omega
            have HZ3 := Lib.hid (And.intro hrow hb)
            have Hlen := Lib.hid hlen
            clear hrow hb hlen
            go_wp2
            go_roundw
            case rel => exact ⟨j + 1, addT d i (x ++ lit), m + k + i, by omega, by go_num, Hlen.out, by omega, HZ3.out.1, HZ3.out.2, HX3.out⟩
            case measure => simp [intOf]; omega
      have hrf : rightT ⟨lit, d, l⟩ m = false := by simpa using hr
      have HRT : Hid (rgt q d l m = false) := HRT0.trans hrf
      have HE : Hid (R = none) := by
        show _ = _
        rw [← HX.out, expandL]; simp only [Hxm.out]; rw [if_neg hr]
      clear HX hr HRT0 hrf
      go_wp2_with (first
        | (go_at_call 80
           refine (rightR_any lA lc q d l m _ h1 h2 h3 (by omega)).mono ?_
           rintro e w1 ⟨rfl, hb1⟩
           rw [HRT.out]
           obtain ⟨p0, p1, p2⟩ := HPW.out w1 (HROW.out.2.trans (hb1.mono HROW.out.2.size))
           have HB1 := Lib.hid hb1
           clear hb1))
      go_ret2
      refine ⟨?_, HROW.out.2.trans (HB1.out.mono HROW.out.2.size)⟩
      rw [HE.out]
      exact ⟨21, by decide, rfl⟩
    obtain rfl : j = n := by omega
    rw [List.drop_eq_nil_of_le (by rw [Hn.out]; exact Nat.le_refl _), expandL] at hex
    subst hex
    have HROW := Lib.hid (And.intro hrow hb)
    clear hrow hb
    go_wp2
    go_ret2
    subst hxm
    exact ⟨⟨_, _, rfl, HROW.out.1⟩, HROW.out.2⟩
end Go.Proofs.YtmhlgbpgdhhfnaaGreat
