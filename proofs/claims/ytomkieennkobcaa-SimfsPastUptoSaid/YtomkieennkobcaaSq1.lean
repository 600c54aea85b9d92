import Derived.Test.YtomkieennkobcaaSm31
import Derived.Test.YtomkieennkobcaaOpenT
import Derived.Deep.DeepCutAuto
import Derived.Deep.RegionWith
/- SimfsQuota walked. -/
namespace Go.Proofs.Ytomkieennkobcaa
open Go.RowKit Go.Maps

theorem lv_setQuota {W w : World} {S : Nat → Prop} {d N : Nat} {s : Dk} (q : Int) (h : Lv W w S d s N) : Calls Try.prog 19 #[.pointer (some ⟨d, 0, none⟩), .int .i64 q] w fun e w' => e = .returned (.int .i64 (setQuotaE q)) ∧ Lv.Then W w w' S d (setQuotaS q s) N :=
  (setQuota_any S d s q w h.1).mono fun _ _ ⟨h1, h2⟩ => ⟨h1, h.did h2 h.2.2.2.setQuota⟩
theorem lv_image {W w : World} {S : Nat → Prop} {d N : Nat} {s : Dk} (h : Lv W w S d s N) (hN : N ≤ 999999999999) : Calls Try.prog 25 #[.pointer (some ⟨d, 0, none⟩)] w fun e w' => ∃ us b cap, e = .returned (.slice b (imageL s).length cap) ∧ FLs w' w.heap.size (imageL s) us (.slice b (imageL s).length cap) ∧ Below w.heap.size w w' :=
  image_any S d N s w h.1 h.2.2.2.ok h.2.2.2.sz.wide hN
theorem tell_Q {w : World} {S : Nat → Prop} {d : Nat} {s : Dk} {y : Int} (h : Disk w S d s) (hy : s.quota = y) : Calls Try.prog 20 #[.pointer (some ⟨d, 0, none⟩)] w fun e w' => e = .returned (.int .i64 y) ∧ w' = w := by
  subst hy
  exact tell_Quota S d s w h
theorem Lv.up {W w : World} {S : Nat → Prop} {d N M : Nat} {s : Dk} (h : Lv W w S d s N) (hM : N ≤ M) : Lv W w S d s M := ⟨h.1, h.2.1, h.2.2.1, h.2.2.2.mono hM⟩
theorem image_len {s : Dk} {N : Nat} (h : s.Inv N) : (imageL s).length ≤ N := by
  have h1 := fold_len s.dchs s.safe
  have h2 := h.sz.d
  unfold imageL
  rw [List.length_map]
  unfold Dk.seen
  omega
section
variable {W w : World} {S : Nat → Prop} {d N : Nat} {s : Dk}
theorem lv_change (k x y : Int) (nm nt : ByteArray) (A A2 : Option Addr) (bs : List UInt8) (ps : List Int) (nb np c c2 : Nat) (h : Lv W w S d s N) (hN : N ≤ 999999999999) (hs : SC.Ok ⟨k, nm, nt, x, y, A, bs, c, A2, ps, c2⟩ W W.heap.size) (hk : 1 ≤ k ∧ k ≤ 7) (hnb : bs.length = nb) (hnp : ps.length = np) (hmx : nb ≤ 140737488351232) :
    Calls Try.prog 23 #[.pointer (some ⟨d, 0, none⟩), .agg #[.int .i64 k, .string nm, .string nt, .int .i64 x, .int .i64 y, .slice A nb c, .slice A2 np c2]] w fun e w' => e = .returned (.tuple #[.int .i64 (chE ⟨k, nm, nt, x, y, A, bs, c, A2, ps, c2⟩ s), .bool true]) ∧ Lv.Then W w w' S d (chS ⟨k, nm, nt, x, y, A, bs, c, A2, ps, c2⟩ s) (N + 1) := by
  subst hnb hnp
  exact change_any W w S d s N ⟨k, nm, nt, x, y, A, bs, c, A2, ps, c2⟩ h hN hs hk hmx
theorem app_quota (n : ByteArray) (bs : List UInt8) (s : Dk) : (appendS n bs s).quota = s.quota := by
  have h := (spend_fields s).2.2.2.1
  unfold appendS
  split
  · rfl
  · split
    · rfl
    · split
      · exact h
      · exact h
theorem size_pos (h : s.Inv N) (n : ByteArray) : 0 ≤ sizeV n s ∧ sizeV n s ≤ 1073741824 := by
  unfold sizeV
  split
  · omega
  · rename_i h0
    obtain ⟨_, _, k, hg⟩ := atE_zero.1 (Classical.not_not.1 h0)
    rw [getL_num hg]
    have := h.len_le hg
    have := h.ub
    omega
end
set_option maxRecDepth 100000 in
set_option maxHeartbeats 16000000 in
theorem quota_law (q : Int) (A : Option Addr) (n c : Nat) (l : List SC) (W : World) (hA : Stp W W.heap.size A l) (hn : l.length = n) (hnm : n ≤ 99999999999) (hb : ∀ s ∈ l, s.bs.length ≤ 1048576) :
    Calls Try.prog 4 #[.int .i64 q, .slice A n c] W fun e w' => e = .returned (.bool true) ∧ Below W.heap.size W w' := by
  have HA := Lib.hid (And.intro hA (And.intro hn hb))
  clear hA hn hb
  by_cases hq : 0 ≤ q ∧ q ≤ 1073741824
  · have HQ := Lib.hid hq
    clear hq
    go_enter Try.func4, Try.ntmps4
    go_wp2_with (first
      | (go_at_call 18
         refine (begun_any q W W (Below.refl _ _) HQ.out).mono ?_
         rintro e w0 ⟨d, S0, rfl, h0, _, _⟩
         have H0 := Lib.hid h0
         clear h0))
    go_loopw [7] (fun i wr => ∃ (j : Nat) (S : Nat → Prop) (s : Dk), j ≤ n ∧ i = .int .i64 j ∧ Lv W wr S d s (2 + j) ∧ s.Lives) (fun i _ => n - (intOf i).toNat)
    case atStart => exact ⟨0, S0, _, Nat.zero_le _, rfl, H0.out, begun_lives q⟩
    case round =>
      obtain ⟨j, S, s, hj, rfl, hL, hl⟩ := hrel
      by_cases hlt : j < n
      · have hk0 : (0 : Int) ≤ j := by omega
        have hk1 : (j : Int) < n := by omega
        obtain ⟨st, hst⟩ : ∃ st, l[j]? = some st := ⟨_, List.getElem?_eq_getElem (by rw [HA.out.2.1]; exact hlt)⟩
        obtain ⟨ad, rfl, had, c0, c1, c2, c3, c4, c5, c6, _⟩ := (HA.out.1.below hL.2.2.1).step hst
        have hok := HA.out.1.2 st (List.mem_of_getElem? hst)
        have hbs := HA.out.2.2 st (List.mem_of_getElem? hst)
        obtain ⟨k, nm, nt, x, y, Ab, bs, cb, Ap, ps, cp⟩ := st
        obtain ⟨nb, hnb⟩ : ∃ nb, bs.length = nb := ⟨_, rfl⟩
        obtain ⟨np, hnp⟩ : ∃ np, ps.length = np := ⟨_, rfl⟩
        dsimp only at c0 c1 c2 c3 c4 c5 c6 hbs
        rw [hnb] at c5 hbs
        rw [hnp] at c6
        have HB := Lib.hid (And.intro hok (And.intro hnb hnp))
        have hX := Box.new wr 44 #[.int .i64 k, .string nm, .string nt, .int .i64 x, .int .i64 y, .slice Ab nb cb, .slice Ap np cp]
        have hXS : ¬ S wr.heap.size := fun h => by have := hL.lt _ h; omega
        have HL := Lib.hid (And.intro (hL.next (Below.al wr (.cells #[.int .i64 k, .string nm, .string nt, .int .i64 x, .int .i64 y, .slice Ab nb cb, .slice Ap np cp] 44))) (And.intro hl (And.intro hX hXS)))
        have hzL := Lib.hid hL.2.2.2
        clear hL hl hok hst hnb hnp hX hXS
        by_cases h11 : k = 11
        · subst h11
          obtain ⟨s2, hs2⟩ : ∃ s2, setQuotaS y s = s2 := ⟨_, rfl⟩
          have HS := Lib.hid (show s2.Lives ∧ (setQuotaE y = 0 → s2.quota = y) by rw [← hs2]; exact ⟨quota_lives HL.out.2.1, at_quota y s⟩)
          have HE := Lib.hid hs2
          clear hs2
          rcases (show (0 ≤ y ∧ y ≤ 1073741824) ∨ y < 0 ∨ 1073741824 < y by omega) with hy | hy | hy
          · have HY := Lib.hid (show setQuotaE y = 0 by simp [setQuotaE, hy])
            obtain ⟨hy1, hy2⟩ := hy
            go_wp2_with (first
              | (go_at_call 19
                 refine (lv_setQuota y HL.out.1).mono ?_
                 rintro e w1 ⟨rfl, h1⟩
                 rw [HE.out] at h1
                 rw [HY.out]
                 obtain ⟨S1, k1, k2, k3⟩ := h1
                 have hx1 := (HL.out.2.2.1.chg k2 HL.out.2.2.2).cell
                 have H1 := Lib.hid k1
                 clear k1 k2 k3))
            go_quiet ((go_at_call 20; exact Calls.quiet_of_same (tell_Q (H1.out.drewN _).1 (HS.out.2 HY.out))))
            go_wp2
            go_roundw
            case rel => exact ⟨j + 1, S1, s2, by omega, by go_num, (H1.out.drewN _).up (by omega), HS.out.1⟩
            case measure => simp [intOf]; omega
          · have HY := Lib.hid (show setQuotaE y = 3 by simp [setQuotaE]; omega)
            go_wp2_with (first
              | (go_at_call 19
                 refine (lv_setQuota y HL.out.1).mono ?_
                 rintro e w1 ⟨rfl, h1⟩
                 rw [HE.out] at h1
                 rw [HY.out]
                 obtain ⟨S1, k1, k2, k3⟩ := h1
                 have hx1 := (HL.out.2.2.1.chg k2 HL.out.2.2.2).cell
                 have H1 := Lib.hid k1
                 clear k1 k2 k3))
            have hy5 : ¬ (0 ≤ y) := by omega
            go_quiet (fail)
            go_wp2
            go_roundw
            case rel => exact ⟨j + 1, S1, s2, by omega, by go_num, (H1.out.drewN _).up (by omega), HS.out.1⟩
            case measure => simp [intOf]; omega
          · have HY := Lib.hid (show setQuotaE y = 3 by simp [setQuotaE]; omega)
            have hy3 : 0 ≤ y := by omega
            go_wp2_with (first
              | (go_at_call 19
                 refine (lv_setQuota y HL.out.1).mono ?_
                 rintro e w1 ⟨rfl, h1⟩
                 rw [HE.out] at h1
                 rw [HY.out]
                 obtain ⟨S1, k1, k2, k3⟩ := h1
                 have hx1 := (HL.out.2.2.1.chg k2 HL.out.2.2.2).cell
                 have H1 := Lib.hid k1
                 clear k1 k2 k3))
            have hy4 : ¬ (y ≤ 1073741824) := by omega
            go_quiet (fail)
            go_wp2
            go_roundw
            case rel => exact ⟨j + 1, S1, s2, by omega, by go_num, (H1.out.drewN _).up (by omega), HS.out.1⟩
            case measure => simp [intOf]; omega
        · by_cases hk : 1 ≤ k ∧ k ≤ 7
          · obtain ⟨s2, hs2⟩ : ∃ s2, chS ⟨k, nm, nt, x, y, Ab, bs, cb, Ap, ps, cp⟩ s = s2 := ⟨_, rfl⟩
            obtain ⟨e, he⟩ : ∃ e, chE ⟨k, nm, nt, x, y, Ab, bs, cb, Ap, ps, cp⟩ s = e := ⟨_, rfl⟩
            obtain ⟨u, hu⟩ : ∃ u, s.used = u := ⟨_, rfl⟩
            obtain ⟨u2, hu2⟩ : ∃ u2, s2.used = u2 := ⟨_, rfl⟩
            obtain ⟨z, hz⟩ : ∃ z, sizeV nm s = z := ⟨_, rfl⟩
            obtain ⟨z2, hz2⟩ : ∃ z2, sizeV nm s2 = z2 := ⟨_, rfl⟩
            obtain ⟨g, hg⟩ : ∃ g, atE nm s = g := ⟨_, rfl⟩
            obtain ⟨g2, hg2⟩ : ∃ g2, atE nm s2 = g2 := ⟨_, rfl⟩
            obtain ⟨Q, hQ⟩ : ∃ Q, s2.quota = Q := ⟨_, rfl⟩
            have HV := Lib.hid (And.intro (And.intro hs2 he) (And.intro (And.intro hu hu2) (And.intro (And.intro hz hz2) (And.intro (And.intro hg hg2) hQ))))
            have hub1 : 0 ≤ u ∧ u ≤ 1073741824 := by rw [← hu]; exact ⟨hzL.out.rg.u.1, hzL.out.ub⟩
            have hzb1 : 0 ≤ z ∧ z ≤ 1073741824 := by rw [← hz]; exact size_pos hzL.out nm
            have hlive : s2.Lives := by rw [← hs2]; exact ch_lives HL.out.2.1
            have hcase : (k ≠ 2 ∧ e ≠ 33 ∧ u2 ≤ u) ∨ (k = 2 ∧ ((g ≠ 0 ∧ e = g ∧ u2 = u) ∨ (g = 0 ∧ e = 33 ∧ u2 = u ∧ z2 = z ∧ 0 < nb ∧ Q < u + nb) ∨ (g = 0 ∧ e = 0 ∧ g2 = 0 ∧ u2 = u + nb ∧ z2 = z + nb ∧ ¬ (0 < nb ∧ Q < u + nb)))) := by
              by_cases h2 : k = 2
              · right
                refine ⟨h2, ?_⟩
                subst h2
                have hE : chE ⟨2, nm, nt, x, y, Ab, bs, cb, Ap, ps, cp⟩ s = appendE nm bs s := rfl
                have hS : chS ⟨2, nm, nt, x, y, Ab, bs, cb, Ap, ps, cp⟩ s = appendS nm bs s := rfl
                rw [hE] at he
                rw [hS] at hs2
                by_cases h0 : atE nm s = 0
                · right
                  by_cases ho : 0 < bs.length ∧ s.quota - s.used < bs.length
                  · left
                    obtain ⟨a1, a2⟩ := app_over h0 ho
                    rw [a2] at hs2
                    subst hs2
                    rw [HB.out.2.1, hQ, hu] at ho
                    exact ⟨by rw [← hg, h0], by rw [← he, a1], by rw [← hu2, hu], by rw [← hz2, hz], by omega, by omega⟩
                  · right
                    obtain ⟨a1, a2, a3, a4⟩ := app_yes HL.out.2.1 hzL.out h0 ho
                    have hq2 : s2.quota = s.quota := by rw [← hs2]; exact app_quota nm bs s
                    rw [hs2] at a2 a3 a4
                    rw [HB.out.2.1] at a2 a4 ho
                    rw [hu2, hu] at a2
                    rw [hz2, hz] at a4
                    rw [← hq2, hQ, hu] at ho
                    exact ⟨by rw [← hg, h0], by rw [← he, a1], by rw [← hg2, a3], a2, a4, by omega⟩
                · left
                  obtain ⟨a1, a2⟩ := app_no (bs := bs) h0
                  rw [a2] at hs2
                  subst hs2
                  exact ⟨by rw [← hg]; exact h0, by rw [← he, a1, hg], by rw [← hu2, hu]⟩
              · left
                refine ⟨h2, ?_, ?_⟩
                · rw [← he]; exact ch_not33 h2
                · rw [← hu2, ← hu, ← hs2]; exact ch_used h2
            have HK := Lib.hid hk
            obtain ⟨hk1', hk7⟩ := hk
            have HLv := Lib.hid hlive
            have HX0 := Lib.hid True.intro
            have HX1 := Lib.hid True.intro
            clear hs2 he hu hu2 hz hz2 hg hg2 hQ hlive
            rcases hcase with ⟨h2, he33, huu⟩ | ⟨h2, hc⟩
            · have HC := Lib.hid h2
              have hk2 : ¬ k = 2 := h2
              have heb : (e == 33) = false := by simpa using he33
              have huv : ¬ u < u2 := by omega
              clear h2
              go_wp2_with (first
                | (go_at_call 21
                   have z0 := HX0
                   clear z0
                   refine (tell_Used S d s _ HL.out.1.1).mono ?_
                   rintro e1 w1 ⟨rfl, hw⟩
                   have hw1 := hw.symm
                   subst hw1
                   rw [HV.out.2.1.1]
                   clear HX0)
                | (go_at_call 22
                   have z0 := HX1
                   clear z0
                   refine (lv_size nm HL.out.1 HB.out.1.2.2.1).mono ?_
                   rintro e1 w1 ⟨rfl, hb1⟩
                   rw [HV.out.2.2.1.1, HV.out.2.2.2.1.1]
                   have H1 := Lib.hid (HL.out.1.next hb1)
                   have hx1 := (HL.out.2.2.1.next hb1).cell
                   have HX1b := Lib.hid (HL.out.2.2.1.next hb1)
                   clear hb1 HX1)
                | (go_at_call 23
                   refine (lv_change _ x y nm nt Ab Ap bs ps _ _ cb cp H1.out (by omega) HB.out.1 HK.out HB.out.2.1 HB.out.2.2 (by omega)).mono ?_
                   rintro e1 w2 ⟨rfl, h1⟩
                   rw [HV.out.1.1] at h1
                   rw [HV.out.1.2]
                   obtain ⟨S2, k1, k2, _⟩ := h1
                   have HXb := Lib.hid (HX1b.out.chg k2 HL.out.2.2.2)
                   have hx2 := HXb.out.cell
                   have H2 := Lib.hid k1
                   clear k1 k2 hx1)
                | (go_at_call 22
                   refine (lv_size nm H2.out HB.out.1.2.2.1).mono ?_
                   rintro e1 w3 ⟨rfl, hb1⟩
                   rw [HV.out.2.2.1.2, HV.out.2.2.2.1.2]
                   have H3 := Lib.hid (H2.out.next hb1)
                   have HXc := Lib.hid (HXb.out.next hb1)
                   have hx3 := HXc.out.cell
                   clear hb1 hx2)
                | (go_at_call 25
                   refine (lv_image H3.out (by omega)).mono ?_
                   rintro e1 w4 ⟨us, ib, icap, rfl, hfl, hb1⟩
                   have H4 := Lib.hid (And.intro (H3.out.next hb1) hfl.im)
                   obtain ⟨il, hil⟩ : ∃ il, (imageL s2).length = il := ⟨_, rfl⟩
                   have hile : il ≤ 2 + j + 1 := by rw [← hil]; exact image_len H3.out.2.2.2
                   rw [hil]
                   have HIL := Lib.hid hil
                   have hx4 := (HXc.out.next hb1).cell
                   have HX6 := Lib.hid True.intro
                   clear hb1 hfl hil hx3)
                | (go_at_call 24
                   refine (total_any ib il icap (imageL s2) _ H4.out.2 HIL.out (by omega) (by have := (used_image H4.out.1.2.2.2).2; omega)).mono ?_
                   rintro e1 w5 ⟨rfl, hw⟩
                   have hw1 := hw.symm
                   subst hw1
                   rw [← (used_image H4.out.1.2.2.2).1, HV.out.2.1.2]
                   have H5 := Lib.hid H4.out.1)
                | (go_at_call 21
                   refine (tell_Used S2 d s2 _ H5.out.1).mono ?_
                   rintro e1 w6 ⟨rfl, hw⟩
                   have hw1 := hw.symm
                   subst hw1
                   rw [HV.out.2.1.2]))
              all_goals first
                | (exfalso; omega)
                | (go_roundw
                   case rel => exact ⟨j + 1, S2, s2, by omega, by go_num, H5.out.up (by omega), HLv.out⟩
                   case measure => simp [intOf]; omega)
            · subst h2
              rcases hc with ⟨hg0, rfl, rfl⟩ | ⟨rfl, rfl, rfl, rfl, hn⟩ | ⟨rfl, rfl, rfl, rfl, rfl, hov⟩
              · have hgb : (e == 0) = false := by simpa using hg0
                rcases (show nb = 0 ∨ (0 < nb ∧ Q < u2 + nb) ∨ (0 < nb ∧ ¬ Q < u2 + nb) by omega) with hn | hn | hn
                · subst hn
                  go_wp2_with (first
                    | (go_at_call 21
                       have z0 := HX0
                       clear z0
                       refine (tell_Used S d s _ HL.out.1.1).mono ?_
                       rintro e1 w1 ⟨rfl, hw⟩
                       have hw1 := hw.symm
                       subst hw1
                       rw [HV.out.2.1.1]
                       clear HX0)
                    | (go_at_call 22
                       have z0 := HX1
                       clear z0
                       refine (lv_size nm HL.out.1 HB.out.1.2.2.1).mono ?_
                       rintro e1 w1 ⟨rfl, hb1⟩
                       rw [HV.out.2.2.1.1, HV.out.2.2.2.1.1]
                       have H1 := Lib.hid (HL.out.1.next hb1)
                       have hx1 := (HL.out.2.2.1.next hb1).cell
                       have HX1b := Lib.hid (HL.out.2.2.1.next hb1)
                       clear hb1 HX1)
                    | (go_at_call 23
                       refine (lv_change _ x y nm nt Ab Ap bs ps _ _ cb cp H1.out (by omega) HB.out.1 HK.out HB.out.2.1 HB.out.2.2 (by omega)).mono ?_
                       rintro e1 w2 ⟨rfl, h1⟩
                       rw [HV.out.1.1] at h1
                       rw [HV.out.1.2]
                       obtain ⟨S2, k1, k2, _⟩ := h1
                       have HXb := Lib.hid (HX1b.out.chg k2 HL.out.2.2.2)
                       have hx2 := HXb.out.cell
                       have H2 := Lib.hid k1
                       clear k1 k2 hx1)
                    | (go_at_call 22
                       refine (lv_size nm H2.out HB.out.1.2.2.1).mono ?_
                       rintro e1 w3 ⟨rfl, hb1⟩
                       rw [HV.out.2.2.1.2, HV.out.2.2.2.1.2]
                       have H3 := Lib.hid (H2.out.next hb1)
                       have HXc := Lib.hid (HXb.out.next hb1)
                       have hx3 := HXc.out.cell
                       clear hb1 hx2)
                    | (go_at_call 25
                       refine (lv_image H3.out (by omega)).mono ?_
                       rintro e1 w4 ⟨us, ib, icap, rfl, hfl, hb1⟩
                       have H4 := Lib.hid (And.intro (H3.out.next hb1) hfl.im)
                       obtain ⟨il, hil⟩ : ∃ il, (imageL s2).length = il := ⟨_, rfl⟩
                       have hile : il ≤ 2 + j + 1 := by rw [← hil]; exact image_len H3.out.2.2.2
                       rw [hil]
                       have HIL := Lib.hid hil
                       have hx4 := (HXc.out.next hb1).cell
                       have HX6 := Lib.hid True.intro
                       clear hb1 hfl hil hx3)
                    | (go_at_call 24
                       refine (total_any ib il icap (imageL s2) _ H4.out.2 HIL.out (by omega) (by have := (used_image H4.out.1.2.2.2).2; omega)).mono ?_
                       rintro e1 w5 ⟨rfl, hw⟩
                       have hw1 := hw.symm
                       subst hw1
                       rw [← (used_image H4.out.1.2.2.2).1, HV.out.2.1.2]
                       have H5 := Lib.hid H4.out.1)
                    | (go_at_call 21
                       refine (tell_Used S2 d s2 _ H5.out.1).mono ?_
                       rintro e1 w6 ⟨rfl, hw⟩
                       have hw1 := hw.symm
                       subst hw1
                       rw [HV.out.2.1.2]))
                  go_quiet ((go_at_call 20; exact Calls.quiet_of_same (tell_Q (H5.out.drewN _).1 HV.out.2.2.2.2)))
                  go_wp2
                  all_goals first
                    | (exfalso; omega)
                    | (go_roundw
                       case rel => exact ⟨j + 1, S2, s2, by omega, by go_num, (H5.out.drewN _).up (by omega), HLv.out⟩
                       case measure => simp [intOf]; omega)
                · have HN := Lib.hid hn
                  clear hn
                  go_wp2_with (first
                    | (go_at_call 21
                       have z0 := HX0
                       clear z0
                       refine (tell_Used S d s _ HL.out.1.1).mono ?_
                       rintro e1 w1 ⟨rfl, hw⟩
                       have hw1 := hw.symm
                       subst hw1
                       rw [HV.out.2.1.1]
                       clear HX0)
                    | (go_at_call 22
                       have z0 := HX1
                       clear z0
                       refine (lv_size nm HL.out.1 HB.out.1.2.2.1).mono ?_
                       rintro e1 w1 ⟨rfl, hb1⟩
                       rw [HV.out.2.2.1.1, HV.out.2.2.2.1.1]
                       have H1 := Lib.hid (HL.out.1.next hb1)
                       have hx1 := (HL.out.2.2.1.next hb1).cell
                       have HX1b := Lib.hid (HL.out.2.2.1.next hb1)
                       clear hb1 HX1)
                    | (go_at_call 23
                       refine (lv_change _ x y nm nt Ab Ap bs ps _ _ cb cp H1.out (by omega) HB.out.1 HK.out HB.out.2.1 HB.out.2.2 (by omega)).mono ?_
                       rintro e1 w2 ⟨rfl, h1⟩
                       rw [HV.out.1.1] at h1
                       rw [HV.out.1.2]
                       obtain ⟨S2, k1, k2, _⟩ := h1
                       have HXb := Lib.hid (HX1b.out.chg k2 HL.out.2.2.2)
                       have hx2 := HXb.out.cell
                       have H2 := Lib.hid k1
                       clear k1 k2 hx1)
                    | (go_at_call 22
                       refine (lv_size nm H2.out HB.out.1.2.2.1).mono ?_
                       rintro e1 w3 ⟨rfl, hb1⟩
                       rw [HV.out.2.2.1.2, HV.out.2.2.2.1.2]
                       have H3 := Lib.hid (H2.out.next hb1)
                       have HXc := Lib.hid (HXb.out.next hb1)
                       have hx3 := HXc.out.cell
                       clear hb1 hx2)
                    | (go_at_call 25
                       refine (lv_image H3.out (by omega)).mono ?_
                       rintro e1 w4 ⟨us, ib, icap, rfl, hfl, hb1⟩
                       have H4 := Lib.hid (And.intro (H3.out.next hb1) hfl.im)
                       obtain ⟨il, hil⟩ : ∃ il, (imageL s2).length = il := ⟨_, rfl⟩
                       have hile : il ≤ 2 + j + 1 := by rw [← hil]; exact image_len H3.out.2.2.2
                       rw [hil]
                       have HIL := Lib.hid hil
                       have hx4 := (HXc.out.next hb1).cell
                       have HX6 := Lib.hid True.intro
                       clear hb1 hfl hil hx3)
                    | (go_at_call 24
                       refine (total_any ib il icap (imageL s2) _ H4.out.2 HIL.out (by omega) (by have := (used_image H4.out.1.2.2.2).2; omega)).mono ?_
                       rintro e1 w5 ⟨rfl, hw⟩
                       have hw1 := hw.symm
                       subst hw1
                       rw [← (used_image H4.out.1.2.2.2).1, HV.out.2.1.2]
                       have H5 := Lib.hid H4.out.1)
                    | (go_at_call 21
                       refine (tell_Used S2 d s2 _ H5.out.1).mono ?_
                       rintro e1 w6 ⟨rfl, hw⟩
                       have hw1 := hw.symm
                       subst hw1
                       rw [HV.out.2.1.2]))
                  have hn3 : 0 < nb := by have := HN.out; omega
                  have hn4 : Q < u2 + (nb : Int) := by have := HN.out; omega
                  have hn5 : IntKind.i64.wrap (u2 + (nb : Int)) = u2 + (nb : Int) := IntWalk.i64_in _ (by omega)
                  go_quiet ((go_at_call 20; exact Calls.quiet_of_same (tell_Q (H5.out.drewN _).1 HV.out.2.2.2.2)))
                  go_wp2
                  all_goals first
                    | (exfalso; omega)
                    | (go_roundw
                       case rel => exact ⟨j + 1, S2, s2, by omega, by go_num, (H5.out.drewN _).up (by omega), HLv.out⟩
                       case measure => simp [intOf]; omega)
                · have HN := Lib.hid hn
                  clear hn
                  go_wp2_with (first
                    | (go_at_call 21
                       have z0 := HX0
                       clear z0
                       refine (tell_Used S d s _ HL.out.1.1).mono ?_
                       rintro e1 w1 ⟨rfl, hw⟩
                       have hw1 := hw.symm
                       subst hw1
                       rw [HV.out.2.1.1]
                       clear HX0)
                    | (go_at_call 22
                       have z0 := HX1
                       clear z0
                       refine (lv_size nm HL.out.1 HB.out.1.2.2.1).mono ?_
                       rintro e1 w1 ⟨rfl, hb1⟩
                       rw [HV.out.2.2.1.1, HV.out.2.2.2.1.1]
                       have H1 := Lib.hid (HL.out.1.next hb1)
                       have hx1 := (HL.out.2.2.1.next hb1).cell
                       have HX1b := Lib.hid (HL.out.2.2.1.next hb1)
                       clear hb1 HX1)
                    | (go_at_call 23
                       refine (lv_change _ x y nm nt Ab Ap bs ps _ _ cb cp H1.out (by omega) HB.out.1 HK.out HB.out.2.1 HB.out.2.2 (by omega)).mono ?_
                       rintro e1 w2 ⟨rfl, h1⟩
                       rw [HV.out.1.1] at h1
                       rw [HV.out.1.2]
                       obtain ⟨S2, k1, k2, _⟩ := h1
                       have HXb := Lib.hid (HX1b.out.chg k2 HL.out.2.2.2)
                       have hx2 := HXb.out.cell
                       have H2 := Lib.hid k1
                       clear k1 k2 hx1)
                    | (go_at_call 22
                       refine (lv_size nm H2.out HB.out.1.2.2.1).mono ?_
                       rintro e1 w3 ⟨rfl, hb1⟩
                       rw [HV.out.2.2.1.2, HV.out.2.2.2.1.2]
                       have H3 := Lib.hid (H2.out.next hb1)
                       have HXc := Lib.hid (HXb.out.next hb1)
                       have hx3 := HXc.out.cell
                       clear hb1 hx2)
                    | (go_at_call 25
                       refine (lv_image H3.out (by omega)).mono ?_
                       rintro e1 w4 ⟨us, ib, icap, rfl, hfl, hb1⟩
                       have H4 := Lib.hid (And.intro (H3.out.next hb1) hfl.im)
                       obtain ⟨il, hil⟩ : ∃ il, (imageL s2).length = il := ⟨_, rfl⟩
                       have hile : il ≤ 2 + j + 1 := by rw [← hil]; exact image_len H3.out.2.2.2
                       rw [hil]
                       have HIL := Lib.hid hil
                       have hx4 := (HXc.out.next hb1).cell
                       have HX6 := Lib.hid True.intro
                       clear hb1 hfl hil hx3)
                    | (go_at_call 24
                       refine (total_any ib il icap (imageL s2) _ H4.out.2 HIL.out (by omega) (by have := (used_image H4.out.1.2.2.2).2; omega)).mono ?_
                       rintro e1 w5 ⟨rfl, hw⟩
                       have hw1 := hw.symm
                       subst hw1
                       rw [← (used_image H4.out.1.2.2.2).1, HV.out.2.1.2]
                       have H5 := Lib.hid H4.out.1)
                    | (go_at_call 21
                       refine (tell_Used S2 d s2 _ H5.out.1).mono ?_
                       rintro e1 w6 ⟨rfl, hw⟩
                       have hw1 := hw.symm
                       subst hw1
                       rw [HV.out.2.1.2]))
                  have hn3 : 0 < nb := by have := HN.out; omega
                  have hn4 : ¬ (Q < u2 + (nb : Int)) := by have := HN.out; omega
                  have hn5 : IntKind.i64.wrap (u2 + (nb : Int)) = u2 + (nb : Int) := IntWalk.i64_in _ (by omega)
                  go_quiet ((go_at_call 20; exact Calls.quiet_of_same (tell_Q (H5.out.drewN _).1 HV.out.2.2.2.2)))
                  go_wp2
                  all_goals first
                    | (exfalso; omega)
                    | (go_roundw
                       case rel => exact ⟨j + 1, S2, s2, by omega, by go_num, (H5.out.drewN _).up (by omega), HLv.out⟩
                       case measure => simp [intOf]; omega)
              · have HN := Lib.hid hn
                clear hn
                go_wp2_with (first
                  | (go_at_call 21
                     have z0 := HX0
                     clear z0
                     refine (tell_Used S d s _ HL.out.1.1).mono ?_
                     rintro e1 w1 ⟨rfl, hw⟩
                     have hw1 := hw.symm
                     subst hw1
                     rw [HV.out.2.1.1]
                     clear HX0)
                  | (go_at_call 22
                     have z0 := HX1
                     clear z0
                     refine (lv_size nm HL.out.1 HB.out.1.2.2.1).mono ?_
                     rintro e1 w1 ⟨rfl, hb1⟩
                     rw [HV.out.2.2.1.1, HV.out.2.2.2.1.1]
                     have H1 := Lib.hid (HL.out.1.next hb1)
                     have hx1 := (HL.out.2.2.1.next hb1).cell
                     have HX1b := Lib.hid (HL.out.2.2.1.next hb1)
                     clear hb1 HX1)
                  | (go_at_call 23
                     refine (lv_change _ x y nm nt Ab Ap bs ps _ _ cb cp H1.out (by omega) HB.out.1 HK.out HB.out.2.1 HB.out.2.2 (by omega)).mono ?_
                     rintro e1 w2 ⟨rfl, h1⟩
                     rw [HV.out.1.1] at h1
                     rw [HV.out.1.2]
                     obtain ⟨S2, k1, k2, _⟩ := h1
                     have HXb := Lib.hid (HX1b.out.chg k2 HL.out.2.2.2)
                     have hx2 := HXb.out.cell
                     have H2 := Lib.hid k1
                     clear k1 k2 hx1)
                  | (go_at_call 22
                     refine (lv_size nm H2.out HB.out.1.2.2.1).mono ?_
                     rintro e1 w3 ⟨rfl, hb1⟩
                     rw [HV.out.2.2.1.2, HV.out.2.2.2.1.2]
                     have H3 := Lib.hid (H2.out.next hb1)
                     have HXc := Lib.hid (HXb.out.next hb1)
                     have hx3 := HXc.out.cell
                     clear hb1 hx2)
                  | (go_at_call 25
                     refine (lv_image H3.out (by omega)).mono ?_
                     rintro e1 w4 ⟨us, ib, icap, rfl, hfl, hb1⟩
                     have H4 := Lib.hid (And.intro (H3.out.next hb1) hfl.im)
                     obtain ⟨il, hil⟩ : ∃ il, (imageL s2).length = il := ⟨_, rfl⟩
                     have hile : il ≤ 2 + j + 1 := by rw [← hil]; exact image_len H3.out.2.2.2
                     rw [hil]
                     have HIL := Lib.hid hil
                     have hx4 := (HXc.out.next hb1).cell
                     have HX6 := Lib.hid True.intro
                     clear hb1 hfl hil hx3)
                  | (go_at_call 24
                     refine (total_any ib il icap (imageL s2) _ H4.out.2 HIL.out (by omega) (by have := (used_image H4.out.1.2.2.2).2; omega)).mono ?_
                     rintro e1 w5 ⟨rfl, hw⟩
                     have hw1 := hw.symm
                     subst hw1
                     rw [← (used_image H4.out.1.2.2.2).1, HV.out.2.1.2]
                     have H5 := Lib.hid H4.out.1)
                  | (go_at_call 21
                     refine (tell_Used S2 d s2 _ H5.out.1).mono ?_
                     rintro e1 w6 ⟨rfl, hw⟩
                     have hw1 := hw.symm
                     subst hw1
                     rw [HV.out.2.1.2]))
                have hn3 : 0 < nb := by have := HN.out; omega
                have hn4 : Q < u2 + (nb : Int) := by have := HN.out; omega
                have hn5 : IntKind.i64.wrap (u2 + (nb : Int)) = u2 + (nb : Int) := IntWalk.i64_in _ (by omega)
                go_quiet ((go_at_call 20; exact Calls.quiet_of_same (tell_Q (H5.out.drewN _).1 HV.out.2.2.2.2)))
                go_wp2
                all_goals first
                  | (exfalso; omega)
                  | (go_roundw
                     case rel => exact ⟨j + 1, S2, s2, by omega, by go_num, (H5.out.drewN _).up (by omega), HLv.out⟩
                     case measure => simp [intOf]; omega)
              · rcases (show nb = 0 ∨ (0 < nb ∧ ¬ Q < u + nb) by omega) with hn | hn
                · clear hov
                  subst hn
                  go_wp2_with (first
                    | (go_at_call 21
                       have z0 := HX0
                       clear z0
                       refine (tell_Used S d s _ HL.out.1.1).mono ?_
                       rintro e1 w1 ⟨rfl, hw⟩
                       have hw1 := hw.symm
                       subst hw1
                       rw [HV.out.2.1.1]
                       clear HX0)
                    | (go_at_call 22
                       have z0 := HX1
                       clear z0
                       refine (lv_size nm HL.out.1 HB.out.1.2.2.1).mono ?_
                       rintro e1 w1 ⟨rfl, hb1⟩
                       rw [HV.out.2.2.1.1, HV.out.2.2.2.1.1]
                       have H1 := Lib.hid (HL.out.1.next hb1)
                       have hx1 := (HL.out.2.2.1.next hb1).cell
                       have HX1b := Lib.hid (HL.out.2.2.1.next hb1)
                       clear hb1 HX1)
                    | (go_at_call 23
                       refine (lv_change _ x y nm nt Ab Ap bs ps _ _ cb cp H1.out (by omega) HB.out.1 HK.out HB.out.2.1 HB.out.2.2 (by omega)).mono ?_
                       rintro e1 w2 ⟨rfl, h1⟩
                       rw [HV.out.1.1] at h1
                       rw [HV.out.1.2]
                       obtain ⟨S2, k1, k2, _⟩ := h1
                       have HXb := Lib.hid (HX1b.out.chg k2 HL.out.2.2.2)
                       have hx2 := HXb.out.cell
                       have H2 := Lib.hid k1
                       clear k1 k2 hx1)
                    | (go_at_call 22
                       refine (lv_size nm H2.out HB.out.1.2.2.1).mono ?_
                       rintro e1 w3 ⟨rfl, hb1⟩
                       rw [HV.out.2.2.1.2, HV.out.2.2.2.1.2]
                       have H3 := Lib.hid (H2.out.next hb1)
                       have HXc := Lib.hid (HXb.out.next hb1)
                       have hx3 := HXc.out.cell
                       clear hb1 hx2)
                    | (go_at_call 25
                       refine (lv_image H3.out (by omega)).mono ?_
                       rintro e1 w4 ⟨us, ib, icap, rfl, hfl, hb1⟩
                       have H4 := Lib.hid (And.intro (H3.out.next hb1) hfl.im)
                       obtain ⟨il, hil⟩ : ∃ il, (imageL s2).length = il := ⟨_, rfl⟩
                       have hile : il ≤ 2 + j + 1 := by rw [← hil]; exact image_len H3.out.2.2.2
                       rw [hil]
                       have HIL := Lib.hid hil
                       have hx4 := (HXc.out.next hb1).cell
                       have HX6 := Lib.hid True.intro
                       clear hb1 hfl hil hx3)
                    | (go_at_call 24
                       refine (total_any ib il icap (imageL s2) _ H4.out.2 HIL.out (by omega) (by have := (used_image H4.out.1.2.2.2).2; omega)).mono ?_
                       rintro e1 w5 ⟨rfl, hw⟩
                       have hw1 := hw.symm
                       subst hw1
                       rw [← (used_image H4.out.1.2.2.2).1, HV.out.2.1.2]
                       have H5 := Lib.hid H4.out.1)
                    | (go_at_call 21
                       refine (tell_Used S2 d s2 _ H5.out.1).mono ?_
                       rintro e1 w6 ⟨rfl, hw⟩
                       have hw1 := hw.symm
                       subst hw1
                       rw [HV.out.2.1.2]))
                  go_quiet ((go_at_call 20; exact Calls.quiet_of_same (tell_Q (H5.out.drewN _).1 HV.out.2.2.2.2)))
                  go_wp2
                  all_goals first
                    | (exfalso; omega)
                    | (go_roundw
                       case rel => exact ⟨j + 1, S2, s2, by omega, by go_num, (H5.out.drewN _).up (by omega), HLv.out⟩
                       case measure => simp [intOf]; omega)
                · clear hov
                  have HN := Lib.hid hn
                  clear hn
                  go_wp2_with (first
                    | (go_at_call 21
                       have z0 := HX0
                       clear z0
                       refine (tell_Used S d s _ HL.out.1.1).mono ?_
                       rintro e1 w1 ⟨rfl, hw⟩
                       have hw1 := hw.symm
                       subst hw1
                       rw [HV.out.2.1.1]
                       clear HX0)
                    | (go_at_call 22
                       have z0 := HX1
                       clear z0
                       refine (lv_size nm HL.out.1 HB.out.1.2.2.1).mono ?_
                       rintro e1 w1 ⟨rfl, hb1⟩
                       rw [HV.out.2.2.1.1, HV.out.2.2.2.1.1]
                       have H1 := Lib.hid (HL.out.1.next hb1)
                       have hx1 := (HL.out.2.2.1.next hb1).cell
                       have HX1b := Lib.hid (HL.out.2.2.1.next hb1)
                       clear hb1 HX1)
                    | (go_at_call 23
                       refine (lv_change _ x y nm nt Ab Ap bs ps _ _ cb cp H1.out (by omega) HB.out.1 HK.out HB.out.2.1 HB.out.2.2 (by omega)).mono ?_
                       rintro e1 w2 ⟨rfl, h1⟩
                       rw [HV.out.1.1] at h1
                       rw [HV.out.1.2]
                       obtain ⟨S2, k1, k2, _⟩ := h1
                       have HXb := Lib.hid (HX1b.out.chg k2 HL.out.2.2.2)
                       have hx2 := HXb.out.cell
                       have H2 := Lib.hid k1
                       clear k1 k2 hx1)
                    | (go_at_call 22
                       refine (lv_size nm H2.out HB.out.1.2.2.1).mono ?_
                       rintro e1 w3 ⟨rfl, hb1⟩
                       rw [HV.out.2.2.1.2, HV.out.2.2.2.1.2]
                       have H3 := Lib.hid (H2.out.next hb1)
                       have HXc := Lib.hid (HXb.out.next hb1)
                       have hx3 := HXc.out.cell
                       clear hb1 hx2)
                    | (go_at_call 25
                       refine (lv_image H3.out (by omega)).mono ?_
                       rintro e1 w4 ⟨us, ib, icap, rfl, hfl, hb1⟩
                       have H4 := Lib.hid (And.intro (H3.out.next hb1) hfl.im)
                       obtain ⟨il, hil⟩ : ∃ il, (imageL s2).length = il := ⟨_, rfl⟩
                       have hile : il ≤ 2 + j + 1 := by rw [← hil]; exact image_len H3.out.2.2.2
                       rw [hil]
                       have HIL := Lib.hid hil
                       have hx4 := (HXc.out.next hb1).cell
                       have HX6 := Lib.hid True.intro
                       clear hb1 hfl hil hx3)
                    | (go_at_call 24
                       refine (total_any ib il icap (imageL s2) _ H4.out.2 HIL.out (by omega) (by have := (used_image H4.out.1.2.2.2).2; omega)).mono ?_
                       rintro e1 w5 ⟨rfl, hw⟩
                       have hw1 := hw.symm
                       subst hw1
                       rw [← (used_image H4.out.1.2.2.2).1, HV.out.2.1.2]
                       have H5 := Lib.hid H4.out.1)
                    | (go_at_call 21
                       refine (tell_Used S2 d s2 _ H5.out.1).mono ?_
                       rintro e1 w6 ⟨rfl, hw⟩
                       have hw1 := hw.symm
                       subst hw1
                       rw [HV.out.2.1.2]))
                  have hn3 : 0 < nb := by have := HN.out; omega
                  have hn4 : ¬ (Q < u + (nb : Int)) := by have := HN.out; omega
                  have hn5 : IntKind.i64.wrap (u + (nb : Int)) = u + (nb : Int) := IntWalk.i64_in _ (by omega)
                  go_quiet ((go_at_call 20; exact Calls.quiet_of_same (tell_Q (H5.out.drewN _).1 HV.out.2.2.2.2)))
                  go_wp2
                  all_goals first
                    | (exfalso; omega)
                    | (go_roundw
                       case rel => exact ⟨j + 1, S2, s2, by omega, by go_num, (H5.out.drewN _).up (by omega), HLv.out⟩
                       case measure => simp [intOf]; omega)
          · rcases (show k < 1 ∨ 7 < k by omega) with hk | hk
            all_goals
              go_wp2
              go_roundw
              case rel => exact ⟨j + 1, S, s, by omega, by go_num, HL.out.1.up (by omega), HL.out.2.1⟩
              case measure => simp [intOf]; omega
      · have H := Lib.hid hL.2.2.1
        clear hL hl
        go_wp2
        go_ret
        exact ⟨rfl, H.out⟩
  · have HQ := Lib.hid hq
    clear hq
    go_enter Try.func4, Try.ntmps4
    go_wp2_with (first
      | (go_at_call 18
         refine (begun_no q W HQ.out).mono ?_
         rintro e w0 ⟨rfl, h0⟩
         have H0 := Lib.hid h0
         clear h0))
    go_ret
    exact ⟨rfl, H0.out⟩
end Go.Proofs.Ytomkieennkobcaa
