import Derived.Test.YtmhlgbpgdhhfnaaGreatV13
set_option linter.unusedVariables false
set_option linter.unusedSimpArgs false
namespace Go.Proofs.YtmhlgbpgdhhfnaaGreat
open Go.RowKit Go.Maps Sqz

/-! chronicleref2.Write, Encode -/
theorem number2I (x : Int) (h0 : 0 ≤ x) (h1 : x ≤ 1000000000) (w : World) :
    Calls Tryz.prog 91 #[.int .i64 x] w fun e w' => ∃ b c, e = .returned (.slice b (uvarI x).length c) ∧ w'.ownsRow w.heap.size 5 1 (.slice b (uvarI x).length c) (uvarI x).length (bv (uvarI x)) ∧ Below w.heap.size w w' := by
  obtain ⟨n, rfl⟩ := Int.eq_ofNat_of_zero_le h0
  refine (number2_any n (by omega) w).mono fun e w' ⟨v, h1, h2, h3⟩ => ?_
  obtain ⟨b, c, rfl⟩ := ownsRow_slice h2
  exact ⟨b, c, h1, h2, h3⟩
theorem uvarI_le (x : Int) : (uvarI x).length ≤ 10 := uvar_le _
set_option maxRecDepth 100000 in
set_option maxHeartbeats 4000000 in
theorem writeR_any (A : Option Addr) (n c : Nat) (ts : List Tok) (w : World) (hT : TRow w w.heap.size A ts) (hn : ts.length = n) (hmx : n ≤ 1000000000) (hsm : ∀ k ∈ ts, k.lit.length ≤ 1000000000 ∧ k.dist ≤ 1000000000 ∧ k.len ≤ 1000000000) :
    Calls Tryz.prog 79 #[.slice A n c] w fun e w' => DcA w w' (writeR ts) e ∧ Below w.heap.size w w' := by
  obtain ⟨i0, hi0, hz0, hs0, hy0⟩ := info_parts info_u8
  have HEX := Lib.hid (expandR_any A n c ts w hT hn hmx hsm)
  have HT := Lib.hid hT
  have Hn := Lib.hid hn
  clear hT hn hsm
  generalize hR : writeR ts = R
  cases hrp : expandL ts [] with
  | none =>
    have HE : Hid (R = none) := by show _ = _; rw [← hR, writeR, hrp]; rfl
    rw [hrp] at HEX
    clear hR hrp
    go_enter Tryz.func79, Tryz.ntmps79
    go_wp2_with (go_at_call 56
                 refine HEX.out.mono ?_
                 rintro e w1 ⟨⟨er, her, rfl⟩, hb1⟩
                 have her' : (er == 0) = false := by simpa using her
                 have H1 := Lib.hid (And.intro her hb1)
                 clear her hb1)
    go_ret2
    refine ⟨?_, H1.out.2⟩
    rw [HE.out]
    exact ⟨er, H1.out.1, rfl⟩
  | some x =>
    obtain ⟨hsm1, hsm2⟩ := expandL_small ts [] x hrp
    have hx4 := expandL_le ts [] x (by simp) hrp
    simp only [List.length_nil, Nat.add_zero] at hsm2
    have HE : Hid (R = some (blockB x.length ts)) := by show _ = _; rw [← hR, writeR, hrp]; rfl
    have hbl := blockB_le x.length ts hsm1 (by omega)
    rw [hrp] at HEX
    obtain ⟨m, hm⟩ : ∃ m, x.length = m := ⟨_, rfl⟩
    rw [hm] at hx4 hsm2 hbl HE
    rw [Hn.out] at hsm2
    have Hm := Lib.hid hm
    have Hsm := Lib.hid hsm1
    have HBL : Hid (∀ j, (uvar m ++ (ts.take j).flatMap tokB).length ≤ 1000000000) := fun j => Nat.le_trans (blk_len m ts j) hbl
    clear hR hrp hsm1 hm hbl
    go_enter Tryz.func79, Tryz.ntmps79
    go_wp2_with (first
      | (go_at_call 56
         refine HEX.out.mono ?_
         rintro e w1 ⟨⟨b1, c1, rfl, ho1⟩, hb1⟩
         rw [Hm.out] at ho1 ⊢
         have H1 := Lib.hid hb1
         clear ho1 hb1)
      | (go_at_call 91
         refine (number2I (m : Int) (by omega) (by omega) _).mono ?_
         rintro e w2 ⟨b2, c2, rfl, ho2, hb2⟩
         have H2 := Lib.hid (And.intro (ownsRow_le ho2 H1.out.size) (H1.out.trans (hb2.mono H1.out.size)))
         clear ho2 hb2))
    go_loopw [6, 7] (fun u v wr => ∃ (j : Nat) (l : List UInt8) (q : Nat), j ≤ n ∧ v = .int .i64 j ∧ l = uvar m ++ (ts.take j).flatMap tokB ∧ l.length = q ∧ wr.ownsRow w.heap.size 5 1 u q (bv l) ∧ Below w.heap.size w wr) (fun _ v _ => n - (intOf v).toNat)
    case atStart => exact ⟨0, uvar m, _, Nat.zero_le _, rfl, by simp, rfl, H2.out.1, H2.out.2⟩
    case round =>
      obtain ⟨j, l, q, hj, rfl, hl, hq, hrow, hb⟩ := hrel
      obtain ⟨vb, vc, rfl⟩ := ownsRow_slice hrow
      have hq9 : q ≤ 1000000000 := by rw [← hq, hl]; exact HBL.out j
      have hbs := hb.size
      have HK := Lib.hid (And.intro hrow hb)
      have Hl := Lib.hid hl
      have Hq := Lib.hid hq
      clear hrow hl hq
      by_cases hlt : j < n
      · have hjl : j < ts.length := by rw [Hn.out]; exact hlt
        obtain ⟨ad, lA, lc, rfl, had, p0, p1, p2, hL⟩ := HT.out.at_ hjl
        obtain ⟨k1, k2, k3⟩ := Hsm.out _ (List.getElem_mem hjl)
        have HST := Lib.hid (blk_step hjl)
        have hq9' := HBL.out (j + 1)
        generalize ts[j] = k at *
        obtain ⟨lit, d, ln⟩ := k
        simp only at *
        obtain ⟨z, hz⟩ : ∃ z, lit.length = z := ⟨_, rfl⟩
        rw [hz] at p0 k1
        have HL := Lib.hid hL
        have Hz := Lib.hid hz
        have hadb : (ad.add (j * 3)).block < w.heap.size := by rw [add_block]; exact had
        have HPW : Hid (∀ W : World, Below w.heap.size w W → W.cell? (ad.add (j * 3)) = some (.slice lA z lc) ∧ W.cell? ⟨(ad.add (j * 3)).block, (ad.add (j * 3)).off + 1, none⟩ = some (.int .i64 d) ∧ W.cell? ⟨(ad.add (j * 3)).block, (ad.add (j * 3)).off + 2, none⟩ = some (.int .i64 ln)) :=
          fun W hW => ⟨(hW.cell hadb).trans p0, (hW.cell (p := ⟨(ad.add (j * 3)).block, (ad.add (j * 3)).off + 1, none⟩) hadb).trans p1, (hW.cell (p := ⟨(ad.add (j * 3)).block, (ad.add (j * 3)).off + 2, none⟩) hadb).trans p2⟩
        clear p0 p1 p2 hL hz
        have HADB := Lib.hid hadb
        clear hadb
        obtain ⟨p0, p1, p2⟩ := HPW.out wr hb
        have hvl : Hid (∀ i, (Value.slice vb q vc).ownBlock = some i → w.heap.size ≤ i ∧ i < wr.heap.size) := fun i e => HK.out.1.lt i e
        clear hb
        by_cases h0 : 0 < z
        · have HTB : Hid (tokB ⟨lit, d, ln⟩ = uvarI (2 * (z : Int)) ++ lit) := by
            show _ = _
            have hne : ¬ lit = [] := fun e => by have := Hz.out; rw [e] at this; simp at this; omega
            unfold tokB uvarI
            simp only
            rw [if_neg hne, Hz.out, show (2 * (z : Int)).toNat = 2 * z by omega]
          have h0' : (0 : Int) < z := by omega
          have hu := uvarI_le (2 * (z : Int))
          go_wp2_with (first
            | (go_at_call 91
               refine (number2I (2 * (z : Int)) (by omega) (by omega) _).mono ?_
               rintro e w3 ⟨b3, c3, rfl, ho, hb⟩
               have hbw := HK.out.2.trans (hb.mono HK.out.2.size)
               obtain ⟨p0, p1, p2⟩ := HPW.out w3 hbw
               have H3 := Lib.hid (And.intro ho (And.intro (ownsRow_below HK.out.1 hb) hbw))
               have hs3 := hbw.size
               have hs3' := hb.size
               clear ho hb hbw)
            | (at_builtin
               refine wpList_app _ rfl (.tmp 43) (.tmp 44) _ rfl w.heap.size 5 i0 _ 1 1 Tryz.underlying22 hi0 hz0 hs0 hy0 rfl (by omega) (.slice vb q vc) (q) _ rfl H3.out.2.1 _ _ ((uvarI (2 * (z : Int))).length) _ (bv (uvarI (2 * (z : Int)))) rfl (by rw [bv_len, Nat.mul_one]) (ownsRow_rd H3.out.1) (one_bv _) (by unfold maxLen; omega) (by omega) (by omega) ?_
               intro v4 w4 hown hg hvv
               obtain ⟨b4, c4, rfl⟩ := ownsRow_slice hown
               rw [← bv_app] at hown
               have hb := (H3.out.2.2).grown hg (by omega) (fun j e => (H3.out.2.1.lt j e).1)
               obtain ⟨p0, p1, p2⟩ := HPW.out w4 hb
               have H4 := Lib.hid (And.intro hown hb)
               have hs4 := hb.size
               clear hown hg hb hvv)
            | (at_builtin
               refine wpList_app _ rfl (.tmp 46) (.tmp 51) _ rfl w.heap.size 5 i0 _ 1 1 Tryz.underlying22 hi0 hz0 hs0 hy0 rfl (by omega) (.slice b4 (q + (uvarI (2 * (z : Int))).length) c4) (q + (uvarI (2 * (z : Int))).length) _ rfl H4.out.1 _ _ (z) _ (bv (lit)) rfl (by rw [bv_len, Nat.mul_one, Hz.out]) (HL.out.below H4.out.2) (one_bv _) (by unfold maxLen; omega) (by omega) (by omega) ?_
               intro v5 w5 hown hg hvv
               obtain ⟨b5, c5, rfl⟩ := ownsRow_slice hown
               rw [← bv_app] at hown
               have hb := (H4.out.2).grown hg (by omega) (fun j e => (H4.out.1.lt j e).1)
               obtain ⟨p0, p1, p2⟩ := HPW.out w5 hb
               have H5 := Lib.hid (And.intro hown hb)
               have hs5 := hb.size
               clear hown hg hb hvv))
          go_roundw
          case rel =>
            refine ⟨j + 1, uvar m ++ (ts.take (j + 1)).flatMap tokB, q + (uvarI (2 * (z : Int))).length + z, by omega, by go_num, rfl, ?_, ?_, H5.out.2⟩
            · rw [HST.out, HTB.out, ← List.append_assoc, ← Hl.out]
              simp only [List.length_append, Hq.out, Hz.out]
              try omega
            rw [HST.out, HTB.out]
            have := H5.out.1
            rw [Hl.out] at this
            simpa [List.append_assoc] using this
          case measure => simp [intOf]; omega
        obtain rfl : z = 0 := by omega
        have HTB : Hid (tokB ⟨lit, d, ln⟩ = uvarI (2 * (ln : Int) + 1) ++ uvarI (d : Int)) := by
          show _ = _
          have hne : lit = [] := List.eq_nil_of_length_eq_zero Hz.out
          unfold tokB uvarI
          simp only
          rw [if_pos hne, show (2 * (ln : Int) + 1).toNat = 2 * ln + 1 by omega]
          rfl
        have hu := uvarI_le (2 * (ln : Int) + 1)
        have hu2 := uvarI_le (d : Int)
        have T1 : True := trivial
        go_wp2_with (first
          | (go_at_call 91
             have z0 := T1
             clear z0
             refine (number2I (2 * (ln : Int) + 1) (by omega) (by omega) _).mono ?_
             rintro e w3 ⟨b3, c3, rfl, ho, hb⟩
             have hbw := HK.out.2.trans (hb.mono HK.out.2.size)
             obtain ⟨p0, p1, p2⟩ := HPW.out w3 hbw
             have H3 := Lib.hid (And.intro ho (And.intro (ownsRow_below HK.out.1 hb) hbw))
             have T2 := T1
             clear T1
             have hs3 := hbw.size
             have hs3' := hb.size
             clear ho hb hbw)
          | (go_at_call 91
             have z0 := T2
             clear z0
             refine (number2I ((d : Int)) (by omega) (by omega) _).mono ?_
             rintro e w6 ⟨b6, c6, rfl, ho, hb⟩
             have hbw := H3.out.2.2.trans (hb.mono H3.out.2.2.size)
             obtain ⟨p0, p1, p2⟩ := HPW.out w6 hbw
             have H6 := Lib.hid (And.intro ho (And.intro (ownsRow_below H3.out.2.1 hb) hbw))
             have H36 := Lib.hid (ownsRow_below H3.out.1 hb)
             have hs6 := hbw.size
             have hs6' := hb.size
             clear ho hb hbw)
          | (at_builtin
             refine wpList_app _ rfl (.tmp 67) (.tmp 68) _ rfl w.heap.size 5 i0 _ 1 1 Tryz.underlying22 hi0 hz0 hs0 hy0 rfl (by omega) (.slice vb q vc) (q) _ rfl H6.out.2.1 _ _ ((uvarI (2 * (ln : Int) + 1)).length) _ (bv (uvarI (2 * (ln : Int) + 1))) rfl (by rw [bv_len, Nat.mul_one]) (ownsRow_rd H36.out) (one_bv _) (by unfold maxLen; omega) (by omega) (by omega) ?_
             intro v4 w4 hown hg hvv
             obtain ⟨b4, c4, rfl⟩ := ownsRow_slice hown
             rw [← bv_app] at hown
             have hb := (H6.out.2.2).grown hg (by omega) (fun j e => (H6.out.2.1.lt j e).1)
             obtain ⟨p0, p1, p2⟩ := HPW.out w4 hb
             have hk6 : w4.ownsRow w3.heap.size 5 1 (.slice b6 (uvarI (d : Int)).length c6) (uvarI (d : Int)).length (bv (uvarI (d : Int))) :=
               ownsRow_block H6.out.1 (fun k hk => (Chg.of_grown hg).block k (H6.out.1.lt k hk).2 (fun e => by have h8 := (hvl.out k e.symm).2; have h9 := (H6.out.1.lt k hk).1; omega))
             have HK6 := Lib.hid hk6
             clear hk6
             have H4 := Lib.hid (And.intro hown hb)
             have hs4 := hb.size
             clear hown hg hb hvv)
          | (at_builtin
             refine wpList_app _ rfl (.tmp 70) (.tmp 71) _ rfl w.heap.size 5 i0 _ 1 1 Tryz.underlying22 hi0 hz0 hs0 hy0 rfl (by omega) (.slice b4 (q + (uvarI (2 * (ln : Int) + 1)).length) c4) (q + (uvarI (2 * (ln : Int) + 1)).length) _ rfl H4.out.1 _ _ ((uvarI (d : Int)).length) _ (bv (uvarI (d : Int))) rfl (by rw [bv_len, Nat.mul_one]) (ownsRow_rd HK6.out) (one_bv _) (by unfold maxLen; omega) (by omega) (by omega) ?_
             intro v5 w5 hown hg hvv
             obtain ⟨b5, c5, rfl⟩ := ownsRow_slice hown
             rw [← bv_app] at hown
             have hb := (H4.out.2).grown hg (by omega) (fun j e => (H4.out.1.lt j e).1)
             obtain ⟨p0, p1, p2⟩ := HPW.out w5 hb
             have H5 := Lib.hid (And.intro hown hb)
             have hs5 := hb.size
             clear hown hg hb hvv))
        go_roundw
        case rel =>
          refine ⟨j + 1, uvar m ++ (ts.take (j + 1)).flatMap tokB, q + (uvarI (2 * (ln : Int) + 1)).length + (uvarI (d : Int)).length, by omega, by go_num, rfl, ?_, ?_, H5.out.2⟩
          · rw [HST.out, HTB.out, ← List.append_assoc, ← Hl.out]
            simp only [List.length_append, Hq.out]
            try omega
          rw [HST.out, HTB.out]
          have := H5.out.1
          rw [Hl.out] at this
          simpa [List.append_assoc] using this
        case measure => simp [intOf]; omega
      obtain rfl : j = n := by omega
      have HX : Hid (R = some l) := by
        show _ = _
        rw [HE.out, Hl.out, List.take_of_length_le (by rw [Hn.out]; exact Nat.le_refl _)]; rfl
      clear hb
      go_wp2
      go_ret2
      refine ⟨?_, HK.out.2⟩
      rw [HX.out]
      refine ⟨vb, vc, by rw [Hq.out]; rfl, ?_⟩
      rw [Hq.out]
      exact HK.out.1
set_option maxRecDepth 100000 in
set_option maxHeartbeats 2000000 in
theorem encodeR_any (A : Option Addr) (n c : Nat) (t : List UInt8) (w : World) (hA : Rd w w.heap.size A (bv t)) (hn : t.length = n) (hmx : n ≤ 4096) :
    Calls Tryz.prog 57 #[.slice A n c] w fun e w' =>
      ∃ b cap, e = .returned (.tuple #[.slice b (enc t).length cap, .int .i64 0]) ∧ w'.ownsRow w.heap.size 5 1 (.slice b (enc t).length cap) (enc t).length (bv (enc t)) ∧ Below w.heap.size w w' := by
  have HA := Lib.hid hA
  have Hn := Lib.hid hn
  obtain ⟨hs1, hs2⟩ := toks_small t (by omega)
  obtain ⟨m, hm⟩ : ∃ m, (toks t).length = m := ⟨_, rfl⟩
  have Hs := Lib.hid hs1
  have Hm := Lib.hid hm
  rw [hm] at hs2
  have HE : Hid (writeR (toks t) = some (enc t)) := by show _ = _; unfold writeR; rw [expand_toks t (by omega)]; rfl
  clear hA hn hs1 hm
  go_enter Tryz.func57, Tryz.ntmps57
  go_wp2_with (first
    | (go_at_call 81
       refine (tokensR_any A n c t _ HA.out Hn.out hmx).mono ?_
       rintro e w1 ⟨b1, c1, rfl, hto, hb1⟩
       rw [Hm.out] at hto ⊢
       have H1 := Lib.hid (And.intro hto hb1)
       clear hto hb1)
    | (go_at_call 79
       refine (writeR_any b1 m c1 (toks t) _ (H1.out.1.row Hm.out) Hm.out (by omega) (fun k hk => (Hs.out k hk).le)).mono ?_
       rintro e w2 ⟨hd, hb2⟩
       rw [HE.out] at hd
       obtain ⟨b2, c2, rfl, hown⟩ := hd
       have H2 := Lib.hid (And.intro hown hb2)
       clear hown hb2))
  go_ret2
  exact ⟨b2, c2, rfl, ownsRow_le H2.out.1 H1.out.2.size, H1.out.2.trans (H2.out.2.mono H1.out.2.size)⟩
end Go.Proofs.YtmhlgbpgdhhfnaaGreat
