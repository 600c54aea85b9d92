import Derived.Test.YtomkieennkobcaaSt4
/- SimfsSettled walked. -/
namespace Go.Proofs.Ytomkieennkobcaa
open Go.RowKit Go.Maps

set_option maxRecDepth 100000 in
set_option maxHeartbeats 32000000 in
theorem settled_law (q : Int) (A : Option Addr) (n c : Nat) (l : List SC) (A' : Option Addr) (n' c' : Nat) (l' : List SC) (Ap : Option Addr) (np cp : Nat) (ps : List Int) (W : World) (hA : Stp W W.heap.size A l) (hn : l.length = n) (hnm : n ≤ 99999999999) (hb : ∀ s ∈ l, s.bs.length ≤ 1048576)
    (hA' : Stp W W.heap.size A' l') (hn' : l'.length = n') (hnm' : n' ≤ 99999999999) (hb' : ∀ s ∈ l', s.bs.length ≤ 1048576)
    (hP : Rd W W.heap.size Ap (ps.map (Value.int .i64))) (hnp : ps.length = np) (hcp : np ≤ cp) (hwf : ∀ x ∈ ps, (Lit.int .i64 x).wf = true) (hpl : np ≤ 140737488355328) :
    Calls Try.prog 7 #[.int .i64 q, .slice A n c, .slice A' n' c', .slice Ap np cp] W fun e w' => e = .returned (.bool true) ∧ Below W.heap.size W w' := by
  have HA := Lib.hid (And.intro hA (And.intro hn hb))
  have HA' := Lib.hid (And.intro hA' (And.intro hn' hb'))
  have HP := Lib.hid (And.intro hP (And.intro hnp (And.intro hcp (And.intro hwf hpl))))
  clear hA hn hb hA' hn' hb' hP hnp hcp hwf hpl
  by_cases hq : 0 ≤ q ∧ q ≤ 1073741824
  · have HQ := Lib.hid hq
    clear hq
    go_enter Try.func7, Try.ntmps7
    go_wp2_with (first
      | (go_at_call 18
         refine (begun_any q W W (Below.refl _ _) HQ.out).mono ?_
         rintro e w0 ⟨d, S0, rfl, h0, _, _⟩
         have H0 := Lib.hid h0
         clear h0))
    go_loopw [11] (fun i wr => ∃ (j : Nat) (S : Nat → Prop) (s : Dk), j ≤ n ∧ i = .int .i64 j ∧ Lv W wr S d s (2 + j) ∧ s.Lives ∧ s.Few ∧ s.quota = q) (fun i _ => n - (intOf i).toNat)
    case atStart => exact ⟨0, S0, _, Nat.zero_le _, rfl, H0.out, begun_lives q, begun_few q⟩
    case round =>
      obtain ⟨j, S, s, hj, rfl, hL, hl, hf, hqs⟩ := hrel
      by_cases hlt : j < n
      · have hk0 : (0 : Int) ≤ j := by omega
        have hk1 : (j : Int) < n := by omega
        obtain ⟨st, hst⟩ : ∃ st, l[j]? = some st := ⟨_, List.getElem?_eq_getElem (by rw [HA.out.2.1]; exact hlt)⟩
        obtain ⟨ad, rfl, had, c0, c1, c3, c4, c5, c6, c7, _⟩ := (HA.out.1.below hL.2.2.1).step hst
        have hok := HA.out.1.2 st (List.mem_of_getElem? hst)
        have hbs := HA.out.2.2 st (List.mem_of_getElem? hst)
        obtain ⟨k, nm, nt, x, y, Ab, bs, cb, A2, p2, c2⟩ := st
        obtain ⟨nb, hnb⟩ : ∃ nb, bs.length = nb := ⟨_, rfl⟩
        obtain ⟨np2, hnp2⟩ : ∃ np2, p2.length = np2 := ⟨_, rfl⟩
        dsimp only at c0 c1 c3 c4 c5 c6 c7 hbs
        rw [hnb] at c6 hbs
        rw [hnp2] at c7
        have HB := Lib.hid (And.intro hok (And.intro hnb (And.intro hnp2 hst)))
        clear hok hnb hnp2 hst
        have HL := Lib.hid (And.intro hL (And.intro hl (And.intro hf hqs)))
        clear hL hl hf hqs
        by_cases hk : 1 ≤ k ∧ k ≤ 7
        · have HK := Lib.hid hk
          obtain ⟨hk2, hk7⟩ := hk
          go_wp2_with (first
            | (go_at_call 23
               refine (lv_change _ x y nm nt Ab A2 bs p2 _ _ cb c2 HL.out.1 (by omega) HB.out.1 HK.out HB.out.2.1 HB.out.2.2.1 (by omega)).mono ?_
               rintro e1 w1 ⟨rfl, g1⟩
               obtain ⟨s2, hs2⟩ : ∃ s2, chS ⟨k, nm, nt, x, y, Ab, bs, cb, A2, p2, c2⟩ s = s2 := ⟨_, rfl⟩
               have hs3 : s2.Lives ∧ s2.Few ∧ s2.quota = q := by rw [← hs2]; exact ⟨ch_lives HL.out.2.1, ch_few HL.out.1.2.2.2 HL.out.2.1 HL.out.2.2.1, (ch_quota HL.out.2.1).trans HL.out.2.2.2⟩
               obtain ⟨S2, g2, _⟩ := g1
               rw [hs2] at g2
               obtain ⟨ev, hev⟩ : ∃ ev, chE ⟨k, nm, nt, x, y, Ab, bs, cb, A2, p2, c2⟩ s = ev := ⟨_, rfl⟩
               rw [hev]
               have H1 := Lib.hid (And.intro g2 hs3)
               clear g2 hs2 hs3 hev))
          go_roundw
          case rel => exact ⟨j + 1, S2, s2, by omega, by go_num, H1.out.1.up (by omega), H1.out.2⟩
          case measure => simp [intOf]; omega
        · rcases (show k < 1 ∨ 7 < k by omega) with hk | hk
          all_goals
            go_wp2
            go_roundw
            case rel => exact ⟨j + 1, S, s, by omega, by go_num, HL.out.1.up (by omega), HL.out.2⟩
            case measure => simp [intOf]; omega
      · have HL := Lib.hid (And.intro (hL.up (show 2 + j ≤ 2 + n by omega)) (And.intro hl (And.intro hf hqs)))
        obtain ⟨z, hz⟩ : ∃ z, s.seen.length = z := ⟨_, rfl⟩
        have hz6 : z ≤ 65536 := by rw [← hz]; exact hf
        have HZ := Lib.hid hz
        clear hL hl hf hqs hz
        go_wp2_with (first
          | (go_at_call 31
             refine (lv_list HL.out.1 (by omega) HL.out.2.1.2).mono ?_
             rintro e1 w1 ⟨nb, nc, rfl, hr, hb1⟩
             rw [HZ.out] at hr ⊢
             have H1 := Lib.hid (And.intro (HL.out.1.next hb1) (nrow_of (S := S) hr HL.out.1.lt))
             clear hr hb1))
        clear hj hlt
        go_loopw [16] (fun i wr => ∃ (j : Nat) (T : Nat → Prop) (t : Dk), j ≤ z ∧ i = .int .i64 j ∧ Lv W wr T d t (2 + n + j) ∧ t.Lives ∧ t.seen = s.seen ∧ t.quota = q ∧ NRow wr T nb s.seen ∧ ∀ (i : Nat) (p : KE), i < j → s.seen[i]? = some p → (t.fl p.2).chs = []) (fun i _ => z - (intOf i).toNat)
        case atStart => exact ⟨0, S, s, Nat.zero_le _, rfl, H1.out.1, HL.out.2.1, rfl, HL.out.2.2.2, H1.out.2, fun i p hi => by omega⟩
        case round =>
          obtain ⟨j, T, t, hj, rfl, hL, hl, hsn, hqs, hN, hC⟩ := hrel
          by_cases hlt : j < z
          · have hk0 : (0 : Int) ≤ j := by omega
            have hk1 : (j : Int) < z := by omega
            obtain ⟨p, hp⟩ : ∃ p, s.seen[j]? = some p := ⟨_, List.getElem?_eq_getElem (by rw [HZ.out]; exact hlt)⟩
            obtain ⟨ad, rfl, had, c0⟩ := hN j p hp
            have hpt : p ∈ t.seen := by rw [hsn]; exact List.mem_of_getElem? hp
            obtain ⟨e1, e2, e3, e4, e5⟩ := sync_step hL.2.2.2 hl hpt
            have HG := Lib.hid (And.intro e1 (And.intro e2 (And.intro e3 (And.intro e4 e5))))
            have HL2 := Lib.hid (And.intro hL (And.intro hl (And.intro hsn (And.intro hqs (And.intro hN (And.intro hC (And.intro hp (hL.2.2.2.seen_names p hpt))))))))
            clear hL hl hsn hqs hN hC hp e1 e2 e3 e4 e5 had hpt
            obtain ⟨pn, pk⟩ := p
            simp only at c0
            go_wp2_with (first
              | (go_at_call 12
                 refine (lv_sync pn HL2.out.1 (by omega) (by have := (goodN_size HL2.out.2.2.2.2.2.2.2).2; simp only at this; unfold maxLen; omega)).mono ?_
                 rintro e1 w2 ⟨rfl, g1⟩
                 rw [HG.out.1]
                 have H2 := Lib.hid g1
                 clear g1))
            go_roundw
            case rel =>
              obtain ⟨T2, g1, g2, g3⟩ := H2.out
              refine ⟨j + 1, T2, _, by omega, by go_num, g1.up (by omega), lives_sync HL2.out.2.1, HG.out.2.1.trans HL2.out.2.2.1, HG.out.2.2.2.2.trans HL2.out.2.2.2.1, HL2.out.2.2.2.2.1.then_ g2 g3, fun i p hi hp => ?_⟩
              rcases Nat.lt_or_ge i j with h | h
              · exact HG.out.2.2.2.1 _ (HL2.out.2.2.2.2.2.1 i p h hp)
              · obtain rfl : i = j := by omega
                rw [HL2.out.2.2.2.2.2.2.1] at hp
                injection hp with hp
                subst hp
                exact HG.out.2.2.1
            case measure => simp [intOf]; omega
          · have hclean : ∀ p ∈ t.seen, (t.fl p.2).chs = [] := fun p hp => by
              rw [hsn] at hp
              obtain ⟨i, hi, rfl⟩ := List.getElem_of_mem hp
              exact hC i _ (by rw [HZ.out] at hi; omega) (List.getElem?_eq_getElem hi)
            obtain ⟨e1, e2, e3, e4⟩ := syncDir_step hl hclean
            have HG := Lib.hid (And.intro e1 (And.intro e2 (And.intro (e3.trans hsn) (And.intro (e4.trans hqs) (lives_syncDir hl)))))
            have HL2 := Lib.hid (hL.up (show 2 + n + j ≤ 2 + n + z by omega))
            clear hL hl hsn hqs hN hC hclean e1 e2 e3 e4
            have Ta0 := Lib.hid True.intro
            go_wp2_with (first
              | (go_at_call 13
                 have z0 := Ta0
                 clear z0
                 refine (lv_syncDir HL2.out (by omega)).mono ?_
                 rintro e1 w2 ⟨rfl, g1⟩
                 rw [HG.out.1]
                 obtain ⟨s3, hs3⟩ : ∃ s3, syncDirS t = s3 := ⟨_, rfl⟩
                 obtain ⟨S3, g2, _⟩ := g1
                 rw [hs3] at g2
                 have HS := Lib.hid (show Settled s3 ∧ s3.seen = s.seen ∧ s3.quota = q ∧ s3.Lives by rw [← hs3]; exact HG.out.2)
                 have H2 := Lib.hid g2
                 clear g2 hs3
                 have Ta1 := Lib.hid True.intro
                 clear Ta0)
              | (go_at_call 25
                 have z0 := Ta1
                 clear z0
                 refine (lv_image H2.out (by omega)).mono ?_
                 rintro e1 w3 ⟨us, ib, ic, rfl, hfl, hb1⟩
                 obtain ⟨img, himg⟩ : ∃ img, imageL s3 = img := ⟨_, rfl⟩
                 obtain ⟨il, hil⟩ : ∃ il, (imageL s3).length = il := ⟨_, rfl⟩
                 have hilz : il = z := by rw [← hil]; unfold imageL; rw [List.length_map, HS.out.2.1, HZ.out]
                 rw [hil] at hfl ⊢
                 rw [himg] at hfl hil
                 obtain ⟨BB, hBB⟩ : ∃ BB, w2.heap.size = BB := ⟨_, rfl⟩
                 obtain ⟨EE, hEE⟩ : ∃ EE, w3.heap.size = EE := ⟨_, rfl⟩
                 have H3 := Lib.hid (show Kp W w3 S3 d s3 (2 + n + z + 1) BB EE ib img from ⟨(H2.out.up (by omega)).next hb1, by have := hfl.imr; rw [hBB, hEE] at this; exact this, fun b hb => .inl (by have := H2.out.lt b hb; omega), by omega⟩)
                 have HM := Lib.hid (And.intro himg (And.intro hil (And.intro hilz (And.intro (show ∀ ps, crashL s3 ps = img from fun ps => (HS.out.1.crash ps).trans himg) (show ∀ p ∈ img, p.2.length ≤ 140737488351232 from himg ▸ image_small H2.out.2.2.2)))))
                 clear hfl hb1 himg hil hBB hEE hilz
                 have Ta2 := Lib.hid True.intro
                 clear Ta1)
              | (go_at_call 15
                 have z0 := Ta2
                 clear z0
                 refine (lv_crash ps Ap np cp H3.out.1 (by omega) (rd_low HP.out.1 H3.out.1.2.2.1) HP.out.2.1 HP.out.2.2.1 HP.out.2.2.2.1 HP.out.2.2.2.2).mono ?_
                 rintro e1 w4 ⟨us4, ib4, ic4, rfl, hfl, hb1⟩
                 obtain ⟨il4, hil⟩ : ∃ il, (crashL s3 ps).length = il := ⟨_, rfl⟩
                 rw [hil] at hfl ⊢
                 have H4 := Lib.hid (H3.out.next hb1)
                 have HI4 := Lib.hid (And.intro hfl.im (And.intro hil (show il4 ≤ _ from hil ▸ crash_len (H3.out.1).2.2.2 ps)))
                 clear hfl hil hb1
                 have Ta3 := Lib.hid True.intro
                 clear Ta2)
              | (go_at_call 29
                 have z0 := Ta3
                 clear z0
                 refine (sameImage_any ib4 ib il4 ic4 il ic (crashL s3 ps) img _ HI4.out.2.1 HM.out.2.1 HI4.out.1 H4.out.im (by have := HI4.out.2.2; omega) (by have := HM.out.2.2.1; omega) (crash_small H4.out.1.2.2.2 ps) HM.out.2.2.2.2).mono ?_
                 rintro e1 w5 ⟨rfl, kk, hw⟩
                 rw [show decide ((crashL s3 ps) = img) = true from decide_eq_true (HM.out.2.2.2.1 ps)]
                 have H5 := Lib.hid (show Kp W w5 S3 d s3 (2 + n + z + 1) BB EE ib img from hw ▸ H4.out.drewN kk)
                 clear hw
                 have Ta4 := Lib.hid True.intro
                 clear Ta3)
              | (go_at_call 15
                 have z0 := Ta4
                 clear z0
                 refine (lv_crash1 H5.out.1 (by omega)).mono ?_
                 rintro e1 w6 ⟨us6, ib6, ic6, rfl, hfl, hb1⟩
                 obtain ⟨il6, hil⟩ : ∃ il, (crashL s3 []).length = il := ⟨_, rfl⟩
                 rw [hil] at hfl ⊢
                 have H6 := Lib.hid (H5.out.next hb1)
                 have HI6 := Lib.hid (And.intro hfl.im (And.intro hil (show il6 ≤ _ from hil ▸ crash_len (H5.out.1).2.2.2 [])))
                 clear hfl hil hb1
                 have Ta5 := Lib.hid True.intro
                 clear Ta4)
              | (go_at_call 29
                 have z0 := Ta5
                 clear z0
                 refine (sameImage_any ib6 ib il6 ic6 il ic (crashL s3 []) img _ HI6.out.2.1 HM.out.2.1 HI6.out.1 H6.out.im (by have := HI6.out.2.2; omega) (by have := HM.out.2.2.1; omega) (crash_small H6.out.1.2.2.2 []) HM.out.2.2.2.2).mono ?_
                 rintro e1 w7 ⟨rfl, kk, hw⟩
                 rw [show decide ((crashL s3 []) = img) = true from decide_eq_true (HM.out.2.2.2.1 [])]
                 have H7 := Lib.hid (show Kp W w7 S3 d s3 (2 + n + z + 1) BB EE ib img from hw ▸ H6.out.drewN kk)
                 clear hw
                 have Ta6 := Lib.hid True.intro
                 clear Ta5)
              | (go_at_call 33
                 have z0 := Ta6
                 clear z0
                 refine (twin_any ib il ic img _ H7.out.im HM.out.2.1 (by have := HM.out.2.2.1; omega) HM.out.2.2.2.2).mono ?_
                 rintro e1 w8 ⟨ust, tb, tc, rfl, ⟨hfl, _⟩, hb1⟩
                 have HT := Lib.hid (And.intro (H7.out.next hb1) hfl.im)
                 have HOK := Lib.hid (show LdOk q img by rw [← HM.out.1]; exact image_ldok H2.out.2.2.2 (by unfold Dk.Few; rw [HS.out.2.1, HZ.out]; exact hz6) HQ.out)
                 clear hfl hb1
                 have Ta7 := Lib.hid True.intro
                 clear Ta6)
              | (go_at_call 32
                 have z0 := Ta7
                 clear z0
                 refine (lv_load (W := W) (N := 2 + n + z + 1) HT.out.1.1.2.2.1 HOK.out HM.out.2.1 HT.out.2 (by have := HM.out.2.2.1; omega)).mono ?_
                 rintro e1 w9 ⟨d2, T3, rfl, g1, g2, g3⟩
                 obtain ⟨t3, ht3⟩ : ∃ t3, ldS q img = t3 := ⟨_, rfl⟩
                 have HS2 := Lib.hid (show (imageL t3 = img ∧ ∀ ps, crashL t3 ps = img) ∧ durL t3 = img ∧ ∃ fb, Sim fb s3 t3 by
                 rw [← ht3]
                 have e1 := ld_image q img HOK.out.asc
                 have e2 : ∀ ps, crashL (ldS q img) ps = img := fun ps => ((ld_settled HOK.out.asc).crash ps).trans e1
                 refine ⟨⟨e1, e2⟩, (crash_nil _).symm.trans (e2 []), ?_⟩
                 have := sim_start HS.out.1 H2.out.2.2.2 HS.out.2.2.2 (by rw [HS.out.2.2.1, HM.out.1]; exact HOK.out)
                 rw [HS.out.2.2.1, HM.out.1] at this
                 exact this)
                 rw [ht3] at g1
                 have HX := Lib.hid (show Kq W w9 S3 d s3 T3 d2 t3 (2 + n + z + 1) BB EE ib img from ⟨⟨(HT.out.1.next g3).1, g1, fun b h1 h2 => by have := HT.out.1.1.lt b h1; have := g2 b h2; omega⟩, (HT.out.1.next g3).2.1, ⟨HT.out.1.2.2.1, fun b hb => .inr (Nat.le_trans HT.out.1.2.2.2 (g2 b hb))⟩, (HT.out.1.next g3).2.2.2⟩)
                 clear g1 g2 g3 ht3
                 have Ta8 := Lib.hid True.intro
                 clear Ta7)
              | (go_at_call 25
                 have z0 := Ta8
                 clear z0
                 refine (lv_image HX.out.1.2.1 (by omega)).mono ?_
                 rintro e1 w10 ⟨us21, ib21, ic21, rfl, hfl, hb1⟩
                 obtain ⟨il21, hil⟩ : ∃ il, (imageL t3).length = il := ⟨_, rfl⟩
                 rw [hil] at hfl ⊢
                 have HX2 := Lib.hid (HX.out.next hb1)
                 have HI21 := Lib.hid (And.intro hfl.im (And.intro hil (show il21 ≤ _ from hil ▸ image_len (HX.out.1.2.1).2.2.2)))
                 clear hfl hil hb1
                 have Ta9 := Lib.hid True.intro
                 clear Ta8)
              | (go_at_call 29
                 have z0 := Ta9
                 clear z0
                 refine (sameImage_any ib21 ib il21 ic21 il ic (imageL t3) img _ HI21.out.2.1 HM.out.2.1 HI21.out.1 HX2.out.im (by have := HI21.out.2.2; omega) (by have := HM.out.2.2.1; omega) (image_small HX2.out.1.2.1.2.2.2) HM.out.2.2.2.2).mono ?_
                 rintro e1 w11 ⟨rfl, kk, hw⟩
                 rw [show decide ((imageL t3) = img) = true from decide_eq_true (HS2.out.1.1)]
                 have HX3 := Lib.hid (show Kq W w11 S3 d s3 T3 d2 t3 (2 + n + z + 1) BB EE ib img from hw ▸ HX2.out.drewN kk)
                 clear hw
                 have Ta10 := Lib.hid True.intro
                 clear Ta9)
              | (go_at_call 15
                 have z0 := Ta10
                 clear z0
                 refine (lv_crash ps Ap np cp HX3.out.1.2.1 (by omega) (rd_low HP.out.1 HX3.out.1.2.1.2.2.1) HP.out.2.1 HP.out.2.2.1 HP.out.2.2.2.1 HP.out.2.2.2.2).mono ?_
                 rintro e1 w12 ⟨us22, ib22, ic22, rfl, hfl, hb1⟩
                 obtain ⟨il22, hil⟩ : ∃ il, (crashL t3 ps).length = il := ⟨_, rfl⟩
                 rw [hil] at hfl ⊢
                 have HX4 := Lib.hid (HX3.out.next hb1)
                 have HI22 := Lib.hid (And.intro hfl.im (And.intro hil (show il22 ≤ _ from hil ▸ crash_len (HX3.out.1.2.1).2.2.2 ps)))
                 clear hfl hil hb1
                 have Ta11 := Lib.hid True.intro
                 clear Ta10)
              | (go_at_call 29
                 have z0 := Ta11
                 clear z0
                 refine (sameImage_any ib22 ib il22 ic22 il ic (crashL t3 ps) img _ HI22.out.2.1 HM.out.2.1 HI22.out.1 HX4.out.im (by have := HI22.out.2.2; omega) (by have := HM.out.2.2.1; omega) (crash_small HX4.out.1.2.1.2.2.2 ps) HM.out.2.2.2.2).mono ?_
                 rintro e1 w13 ⟨rfl, kk, hw⟩
                 rw [show decide ((crashL t3 ps) = img) = true from decide_eq_true (HS2.out.1.2 ps)]
                 have HX5 := Lib.hid (show Kq W w13 S3 d s3 T3 d2 t3 (2 + n + z + 1) BB EE ib img from hw ▸ HX4.out.drewN kk)
                 clear hw
                 have Ta12 := Lib.hid True.intro
                 clear Ta11))
            go_loopw [20] (fun i wr => ∃ (j : Nat) (S T : Nat → Prop) (u v : Dk) (fb : List Nat), j ≤ n' ∧ i = .int .i64 j ∧ Kq W wr S d u T d2 v (2 + n + z + 1 + 2 * j) BB EE ib img ∧ Sim fb u v ∧ durL u = img ∧ durL v = img) (fun i _ => n' - (intOf i).toNat)
            case atStart =>
              obtain ⟨fb, hfb⟩ := HS2.out.2.2
              exact ⟨0, S3, T3, s3, t3, fb, Nat.zero_le _, rfl, HX5.out, hfb, (crash_nil _).symm.trans (HM.out.2.2.2.1 []), HS2.out.2.1⟩
            case round =>
              obtain ⟨j, S, T, u, v, fb, hj, rfl, hK, hSim, hd1, hd2⟩ := hrel
              by_cases hlt : j < n'
              · have hk0 : (0 : Int) ≤ j := by omega
                have hk1 : (j : Int) < n' := by omega
                obtain ⟨st, hst⟩ : ∃ st, l'[j]? = some st := ⟨_, List.getElem?_eq_getElem (by rw [HA'.out.2.1]; exact hlt)⟩
                obtain ⟨ad, rfl, had, c0, c1, c3, c4, c5, c6, c7, _⟩ := (HA'.out.1.below hK.1.1.2.2.1).step hst
                have hok := HA'.out.1.2 st (List.mem_of_getElem? hst)
                have hbs := HA'.out.2.2 st (List.mem_of_getElem? hst)
                obtain ⟨k, nm, nt, x, y, Ab, bs, cb, A2, p2, c2⟩ := st
                obtain ⟨nb, hnb⟩ : ∃ nb, bs.length = nb := ⟨_, rfl⟩
                obtain ⟨np2, hnp2⟩ : ∃ np2, p2.length = np2 := ⟨_, rfl⟩
                dsimp only at c0 c1 c3 c4 c5 c6 c7 hbs
                rw [hnb] at c6 hbs
                rw [hnp2] at c7
                have HB := Lib.hid (And.intro hok (And.intro hnb (And.intro hnp2 hst)))
                clear hok hnb hnp2 hst
                have HL := Lib.hid (And.intro hK (And.intro hSim (And.intro hd1 hd2)))
                clear hK hSim hd1 hd2
                by_cases hk : (1 ≤ k ∧ k ≤ 7) ∧ k ≠ 4 ∧ k ≠ 5
                · have HK := Lib.hid hk
                  obtain ⟨⟨hk2, hk7⟩, hk4, hk5⟩ := hk
                  have hk4b : (k == 4) = false := by simpa using hk4
                  have hk5b : (k == 5) = false := by simpa using hk5
                  have hk4c : (k != 4) = true := by simpa using hk4
                  have hk5c : (k != 5) = true := by simpa using hk5
                  obtain ⟨u2, hu2⟩ : ∃ u2, chS ⟨k, nm, nt, x, y, Ab, bs, cb, A2, p2, c2⟩ u = u2 := ⟨_, rfl⟩
                  obtain ⟨v2, hv2⟩ : ∃ v2, chS ⟨k, nm, nt, x, y, Ab, bs, cb, A2, p2, c2⟩ v = v2 := ⟨_, rfl⟩
                  obtain ⟨e, he⟩ : ∃ e, chE ⟨k, nm, nt, x, y, Ab, bs, cb, A2, p2, c2⟩ u = e := ⟨_, rfl⟩
                  have hst2 := sim_step HL.out.2.1 HL.out.1.1.1.2.2.2 (st := ⟨k, nm, nt, x, y, Ab, bs, cb, A2, p2, c2⟩) ⟨HK.out.1.1, HK.out.1.2, HK.out.2⟩
                  have hdu := dur_step HL.out.1.1.1.2.2.2 HL.out.2.1.ls (st := ⟨k, nm, nt, x, y, Ab, bs, cb, A2, p2, c2⟩) ⟨HK.out.1.1, HK.out.1.2, HK.out.2⟩
                  have hdv := dur_step HL.out.1.1.2.1.2.2.2 HL.out.2.1.lt (st := ⟨k, nm, nt, x, y, Ab, bs, cb, A2, p2, c2⟩) ⟨HK.out.1.1, HK.out.1.2, HK.out.2⟩
                  rw [hu2, hv2, he] at hst2
                  rw [hu2] at hdu
                  rw [hv2] at hdv
                  have HV := Lib.hid (And.intro (And.intro hu2 he) (And.intro (And.intro hv2 hst2.1) (And.intro hst2.2 (And.intro (hdu.trans HL.out.2.2.1) (hdv.trans HL.out.2.2.2)))))
                  clear hu2 hv2 he hst2 hdu hdv
                  have Tb0 := Lib.hid True.intro
                  go_wp2_with (first
                    | (go_at_call 23
                       have z0 := Tb0
                       clear z0
                       refine (lv_change _ x y nm nt Ab A2 bs p2 _ _ cb c2 HL.out.1.1.1 (by omega) HB.out.1 HK.out.1 HB.out.2.1 HB.out.2.2.1 (by omega)).mono ?_
                       rintro e1 v3 ⟨rfl, g1⟩
                       rw [HV.out.1.1] at g1
                       rw [HV.out.1.2]
                       obtain ⟨S2, g2⟩ := HL.out.1.a (by omega) g1
                       obtain ⟨ad2, ea, _, e0, e1', e3, e4, e5, e6, e7, _⟩ := (HA'.out.1.below g2.1.1.2.2.1).step HB.out.2.2.2
                       cases ea
                       dsimp only at e0 e1' e3 e4 e5 e6 e7
                       rw [HB.out.2.1] at e6
                       rw [HB.out.2.2.1] at e7
                       have K1 := Lib.hid g2
                       clear g1 g2 c0 c1 c3 c4 c5 c6 c7
                       have Tb1 := Lib.hid True.intro
                       clear Tb0)
                    | (go_at_call 23
                       have z0 := Tb1
                       clear z0
                       refine (lv_change _ x y nm nt Ab A2 bs p2 _ _ cb c2 K1.out.1.2.1 (by omega) HB.out.1 HK.out.1 HB.out.2.1 HB.out.2.2.1 (by omega)).mono ?_
                       rintro e1 v4 ⟨rfl, g1⟩
                       rw [HV.out.2.1.1] at g1
                       rw [HV.out.2.1.2]
                       obtain ⟨T2, g2⟩ := K1.out.b (by omega) g1
                       have K2 := Lib.hid g2
                       clear g1 g2
                       have Tb2 := Lib.hid True.intro
                       clear Tb1))
                  all_goals first
                    | (go_roundw
                       case rel =>
                         obtain ⟨fb2, hfb2⟩ := HV.out.2.2.1
                         exact ⟨j + 1, S2, T2, u2, v2, fb2, by omega, by go_num, K2.out.up (by omega), hfb2, HV.out.2.2.2⟩
                       case measure => simp [intOf]; omega)
                    | (exfalso
                       rename_i hz4
                       have h4 := HK.out.2.1
                       have h5 := HK.out.2.2
                       simp [h4, h5] at hz4)
                · rcases (show k < 1 ∨ 7 < k ∨ k = 4 ∨ k = 5 by omega) with hk | hk | hk | hk
                  rotate_right
                  · subst hk
                    go_wp2
                    go_roundw
                    case rel => exact ⟨j + 1, S, T, u, v, fb, by omega, by go_num, HL.out.1.up (by omega), HL.out.2⟩
                    case measure => simp [intOf]; omega
                  rotate_right
                  · subst hk
                    go_wp2
                    go_roundw
                    case rel => exact ⟨j + 1, S, T, u, v, fb, by omega, by go_num, HL.out.1.up (by omega), HL.out.2⟩
                    case measure => simp [intOf]; omega
                  all_goals
                    go_wp2
                    go_roundw
                    case rel => exact ⟨j + 1, S, T, u, v, fb, by omega, by go_num, HL.out.1.up (by omega), HL.out.2⟩
                    case measure => simp [intOf]; omega
              · have HL := Lib.hid (And.intro (hK.up (show 2 + n + z + 1 + 2 * j ≤ 2 + n + z + 1 + 2 * n' by omega)) (And.intro hSim (And.intro hd1 hd2)))
                clear hK hSim hd1 hd2
                have HL1 := Lib.hid HL.out.1
                have Tc0 := Lib.hid True.intro
                go_wp2_with (first
                  | (go_at_call 15
                     have z0 := Tc0
                     clear z0
                     refine (lv_crash1 HL1.out.1.1 (by omega)).mono ?_
                     rintro e1 w41 ⟨us41, ib41, ic41, rfl, hfl, hb1⟩
                     obtain ⟨il41, hil⟩ : ∃ il, (crashL u []).length = il := ⟨_, rfl⟩
                     rw [hil] at hfl ⊢
                     have E1 := Lib.hid (HL1.out.next hb1)
                     have HI41 := Lib.hid (And.intro hfl.im (And.intro hil (show il41 ≤ _ from hil ▸ crash_len (HL1.out.1.1).2.2.2 [])))
                     clear hfl hil hb1
                     have Tc1 := Lib.hid True.intro
                     clear Tc0)
                  | (go_at_call 29
                     have z0 := Tc1
                     clear z0
                     refine (sameImage_any ib41 ib il41 ic41 il ic (crashL u []) img _ HI41.out.2.1 HM.out.2.1 HI41.out.1 E1.out.im (by have := HI41.out.2.2; omega) (by have := HM.out.2.2.1; omega) (crash_small E1.out.1.1.2.2.2 []) HM.out.2.2.2.2).mono ?_
                     rintro e1 w42 ⟨rfl, kk, hw⟩
                     rw [show decide ((crashL u []) = img) = true from decide_eq_true ((crash_nil u).trans HL.out.2.2.1)]
                     have E2 := Lib.hid (show Kq W w42 S d u T d2 v (2 + n + z + 1 + 2 * n') BB EE ib img from hw ▸ E1.out.drewN kk)
                     clear hw
                     have Tc2 := Lib.hid True.intro
                     clear Tc1)
                  | (go_at_call 15
                     have z0 := Tc2
                     clear z0
                     refine (lv_crash1 E2.out.1.2.1 (by omega)).mono ?_
                     rintro e1 w43 ⟨us43, ib43, ic43, rfl, hfl, hb1⟩
                     obtain ⟨il43, hil⟩ : ∃ il, (crashL v []).length = il := ⟨_, rfl⟩
                     rw [hil] at hfl ⊢
                     have E3 := Lib.hid (E2.out.next hb1)
                     have HI43 := Lib.hid (And.intro hfl.im (And.intro hil (show il43 ≤ _ from hil ▸ crash_len (E2.out.1.2.1).2.2.2 [])))
                     clear hfl hil hb1
                     have Tc3 := Lib.hid True.intro
                     clear Tc2)
                  | (go_at_call 29
                     have z0 := Tc3
                     clear z0
                     refine (sameImage_any ib43 ib il43 ic43 il ic (crashL v []) img _ HI43.out.2.1 HM.out.2.1 HI43.out.1 E3.out.im (by have := HI43.out.2.2; omega) (by have := HM.out.2.2.1; omega) (crash_small E3.out.1.2.1.2.2.2 []) HM.out.2.2.2.2).mono ?_
                     rintro e1 w44 ⟨rfl, kk, hw⟩
                     rw [show decide ((crashL v []) = img) = true from decide_eq_true ((crash_nil v).trans HL.out.2.2.2)]
                     have E4 := Lib.hid (show Kq W w44 S d u T d2 v (2 + n + z + 1 + 2 * n') BB EE ib img from hw ▸ E3.out.drewN kk)
                     clear hw
                     have Tc4 := Lib.hid True.intro
                     clear Tc3)
                  | (go_at_call 25
                     have z0 := Tc4
                     clear z0
                     refine (lv_image E4.out.1.1 (by omega)).mono ?_
                     rintro e1 w45 ⟨us45, ib45, ic45, rfl, hfl, hb1⟩
                     obtain ⟨il45, hil⟩ : ∃ il, (imageL u).length = il := ⟨_, rfl⟩
                     rw [hil] at hfl ⊢
                     have E5 := Lib.hid (E4.out.next hb1)
                     have HI45 := Lib.hid (And.intro hfl.im (And.intro hil (show il45 ≤ _ from hil ▸ image_len (E4.out.1.1).2.2.2)))
                     clear hfl hil hb1
                     have Tc5 := Lib.hid True.intro
                     clear Tc4)
                  | (go_at_call 25
                     have z0 := Tc5
                     clear z0
                     refine (lv_image E5.out.1.2.1 (by omega)).mono ?_
                     rintro e1 w46 ⟨us46, ib46, ic46, rfl, hfl, hb1⟩
                     obtain ⟨il46, hil⟩ : ∃ il, (imageL v).length = il := ⟨_, rfl⟩
                     rw [hil] at hfl ⊢
                     have E6 := Lib.hid (E5.out.next hb1)
                     have HI46 := Lib.hid (And.intro hfl.im (And.intro hil (show il46 ≤ _ from hil ▸ image_len (E5.out.1.2.1).2.2.2)))
                     have HJ45 := Lib.hid (HI45.out.1.next hb1)
                     clear hfl hil hb1
                     have Tc6 := Lib.hid True.intro
                     clear Tc5)
                  | (go_at_call 29
                     have z0 := Tc6
                     clear z0
                     refine (sameImage_any ib45 ib46 il45 ic45 il46 ic46 (imageL u) (imageL v) _ HI45.out.2.1 HI46.out.2.1 HJ45.out HI46.out.1 (by have := HI45.out.2.2; omega) (by have := HI46.out.2.2; omega) (image_small E5.out.1.1.2.2.2) (image_small E5.out.1.2.1.2.2.2)).mono ?_
                     rintro e1 w47 ⟨rfl, kk, hw⟩
                     rw [show decide ((imageL u) = (imageL v)) = true from decide_eq_true ((HL.out.2.1.image HL.out.1.1.1.2.2.2).symm)]
                     have E7 := Lib.hid (show Kq W w47 S d u T d2 v (2 + n + z + 1 + 2 * n') BB EE ib img from hw ▸ E6.out.drewN kk)
                     clear hw
                     have Tc7 := Lib.hid True.intro
                     clear Tc6)
                  | (go_at_call 15
                     have z0 := Tc7
                     clear z0
                     refine (lv_crash ps Ap np cp E7.out.1.1 (by omega) (rd_low HP.out.1 E7.out.1.1.2.2.1) HP.out.2.1 HP.out.2.2.1 HP.out.2.2.2.1 HP.out.2.2.2.2).mono ?_
                     rintro e1 w48 ⟨us48, ib48, ic48, rfl, hfl, hb1⟩
                     obtain ⟨il48, hil⟩ : ∃ il, (crashL u ps).length = il := ⟨_, rfl⟩
                     rw [hil] at hfl ⊢
                     have E8 := Lib.hid (E7.out.next hb1)
                     have HI48 := Lib.hid (And.intro hfl.im (And.intro hil (show il48 ≤ _ from hil ▸ crash_len (E7.out.1.1).2.2.2 ps)))
                     clear hfl hil hb1
                     have Tc8 := Lib.hid True.intro
                     clear Tc7)
                  | (go_at_call 15
                     have z0 := Tc8
                     clear z0
                     refine (lv_crash ps Ap np cp E8.out.1.2.1 (by omega) (rd_low HP.out.1 E8.out.1.2.1.2.2.1) HP.out.2.1 HP.out.2.2.1 HP.out.2.2.2.1 HP.out.2.2.2.2).mono ?_
                     rintro e1 w49 ⟨us49, ib49, ic49, rfl, hfl, hb1⟩
                     obtain ⟨il49, hil⟩ : ∃ il, (crashL v ps).length = il := ⟨_, rfl⟩
                     rw [hil] at hfl ⊢
                     have E9 := Lib.hid (E8.out.next hb1)
                     have HI49 := Lib.hid (And.intro hfl.im (And.intro hil (show il49 ≤ _ from hil ▸ crash_len (E8.out.1.2.1).2.2.2 ps)))
                     have HJ48 := Lib.hid (HI48.out.1.next hb1)
                     clear hfl hil hb1
                     have Tc9 := Lib.hid True.intro
                     clear Tc8)
                  | (go_at_call 29
                     have z0 := Tc9
                     clear z0
                     refine (sameImage_any ib48 ib49 il48 ic48 il49 ic49 (crashL u ps) (crashL v ps) _ HI48.out.2.1 HI49.out.2.1 HJ48.out HI49.out.1 (by have := HI48.out.2.2; omega) (by have := HI49.out.2.2; omega) (crash_small E8.out.1.1.2.2.2 ps) (crash_small E8.out.1.2.1.2.2.2 ps)).mono ?_
                     rintro e1 w50 ⟨rfl, kk, hw⟩
                     rw [show decide ((crashL u ps) = (crashL v ps)) = true from decide_eq_true ((HL.out.2.1.crash HL.out.1.1.1.2.2.2 ps).symm)]
                     have E10 := Lib.hid (show Kq W w50 S d u T d2 v (2 + n + z + 1 + 2 * n') BB EE ib img from hw ▸ E9.out.drewN kk)
                     clear hw
                     have Tc10 := Lib.hid True.intro
                     clear Tc9))
                go_ret
                exact ⟨by first | rfl | simp, E10.out.1.1.2.2.1⟩
  · have HQ := Lib.hid hq
    clear hq
    go_enter Try.func7, Try.ntmps7
    go_wp2_with (first
      | (go_at_call 18
         refine (begun_no q W HQ.out).mono ?_
         rintro e w0 ⟨rfl, h0⟩
         have H0 := Lib.hid h0
         clear h0))
    go_ret
    exact ⟨rfl, H0.out⟩
end Go.Proofs.Ytomkieennkobcaa
