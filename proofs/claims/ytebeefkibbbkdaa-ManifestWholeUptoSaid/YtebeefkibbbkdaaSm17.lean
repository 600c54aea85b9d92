import Derived.Test.YtebeefkibbbkdaaSm16
/- Rename. -/
namespace Go.Proofs.Ytebeefkibbbkdaa
open Go.RowKit Go.Maps

theorem key_ne {a b : ByteArray} (h : ¬ a = b) : (a.toList == b.toList) = false := by
  rw [beq_eq_false_iff_ne]
  intro e
  rw [ByteArray.toList_eq, ByteArray.toList_eq] at e
  exact h (bytes_eq e)
theorem less_zero (s : Dk) : s.less 0 = spendS s := by
  unfold Dk.less
  rw [Int.sub_zero, ← (spend_fields s).2.2.2.2]

set_option maxRecDepth 100000 in
set_option maxHeartbeats 16000000 in
theorem rename_any (S : Nat → Prop) (d N : Nat) (s : Dk) (a b : ByteArray) (w : World) (h : Disk w S d s) (hok : s.Ok) (hsz : s.Sz N 140737488355328) (hrg : s.Rg N) (hN : N ≤ 999999999999) (hz : a.size ≤ maxLen) (hz2 : b.size ≤ maxLen) :
    Calls Try.prog 35 #[.pointer (some ⟨d, 0, none⟩), .string a, .string b] w fun e w' => e = .returned (.int .i64 (renameE a b s)) ∧ Did w w' S d (renameS a b s) := by
  have H := Lib.hid h
  by_cases hd : s.dead = true
  · have HE := Lib.hid (And.intro hd (show renameE a b s = 34 ∧ renameS a b s = s by simp [renameE, renameS, hd]))
    clear h hok hsz hrg hd
    go_enter Try.func35, Try.ntmps35
    go_wp2_with (go_at_call 81
                 refine (ready_any S d s _ H.out).mono ?_
                 rintro e w0 ⟨rfl, hw0⟩
                 have hw1 := hw0.symm
                 subst hw1
                 rw [if_pos HE.out.1])
    go_ret
    rw [HE.out.2.1, HE.out.2.2]
    exact ⟨rfl, Did.same H.out (Below.refl _ _)⟩
  have HDD := Lib.hid hd
  have t1 := True.intro
  by_cases ga : goodN a = true
  case neg =>
    have ga' : goodN a = false := by simpa using ga
    have HE := Lib.hid (show renameE a b s = 30 ∧ renameS a b s = s by simp [renameE, renameS, hd, ga'])
    have HGA := Lib.hid ga'
    clear h hok hsz hrg hd ga ga'
    go_enter Try.func35, Try.ntmps35
    go_wp2_with (first
        | (go_at_call 81
           refine (ready_any S d s _ H.out).mono ?_
           rintro e w0 ⟨rfl, hw0⟩
           have hw1 := hw0.symm
           subst hw1
           rw [if_neg HDD.out])
        | (go_at_call 44
           have t9 := t1
           clear t9 t1
           refine (goodName_any a _ hz).mono ?_
           rintro e w1 ⟨rfl, hb⟩
           rw [HGA.out]
           have HB1 := Lib.hid hb
           clear hb))
    go_ret
    rw [HE.out.1, HE.out.2]
    exact ⟨rfl, Did.same H.out HB1.out⟩
  have HGA := Lib.hid ga
  by_cases gb : goodN b = true
  case neg =>
    have gb' : goodN b = false := by simpa using gb
    have HE := Lib.hid (show renameE a b s = 30 ∧ renameS a b s = s by simp [renameE, renameS, hd, gb'])
    have HGB := Lib.hid gb'
    clear h hok hsz hrg hd ga gb gb'
    go_enter Try.func35, Try.ntmps35
    go_wp2_with (first
        | (go_at_call 81
           refine (ready_any S d s _ H.out).mono ?_
           rintro e w0 ⟨rfl, hw0⟩
           have hw1 := hw0.symm
           subst hw1
           rw [if_neg HDD.out])
        | (go_at_call 44
           have t9 := t1
           clear t9 t1
           refine (goodName_any a _ hz).mono ?_
           rintro e w1 ⟨rfl, hb⟩
           rw [HGA.out]
           have HB1 := Lib.hid hb
           clear hb)
        | (go_at_call 44
           refine (goodName_any b _ hz2).mono ?_
           rintro e w2 ⟨rfl, hb⟩
           rw [HGB.out]
           have HB2 := Lib.hid (bel_next HB1.out hb)
           clear hb HB1))
    go_ret
    rw [HE.out.1, HE.out.2]
    exact ⟨rfl, Did.same H.out HB2.out⟩
  have HGB := Lib.hid gb
  by_cases hab : a = b
  · have HE := Lib.hid (show renameE a b s = 3 ∧ renameS a b s = s by simp [renameE, renameS, hd, gb, hab])
    subst hab
    clear h hok hsz hrg hd ga gb
    go_enter Try.func35, Try.ntmps35
    go_wp2_with (first
        | (go_at_call 81
           refine (ready_any S d s _ H.out).mono ?_
           rintro e w0 ⟨rfl, hw0⟩
           have hw1 := hw0.symm
           subst hw1
           rw [if_neg HDD.out])
        | (go_at_call 44
           have t9 := t1
           clear t9 t1
           refine (goodName_any a _ hz).mono ?_
           rintro e w1 ⟨rfl, hb⟩
           rw [HGA.out]
           have HB1 := Lib.hid hb
           clear hb)
        | (go_at_call 44
           refine (goodName_any a _ hz2).mono ?_
           rintro e w2 ⟨rfl, hb⟩
           rw [HGB.out]
           have HB2 := Lib.hid (bel_next HB1.out hb)
           clear hb HB1))
    go_ret
    rw [HE.out.1, HE.out.2]
    exact ⟨rfl, Did.same H.out HB2.out⟩
  have hkne := key_ne hab
  by_cases h0 : atE a s = 0
  case neg =>
    have HE := Lib.hid (show renameE a b s = atE a s ∧ renameS a b s = s by simp [renameE, renameS, hd, ga, gb, hab, h0])
    obtain ⟨er, her⟩ : ∃ er, atE a s = er := ⟨_, rfl⟩
    have HR := Lib.hid her
    rw [her] at h0
    have hnb : (er != 0) = true := by rw [bne_iff_ne]; exact h0
    clear h hok hsz hrg hd ga gb her hab
    go_enter Try.func35, Try.ntmps35
    go_wp2_with (first
        | (go_at_call 81
           refine (ready_any S d s _ H.out).mono ?_
           rintro e w0 ⟨rfl, hw0⟩
           have hw1 := hw0.symm
           subst hw1
           rw [if_neg HDD.out])
        | (go_at_call 44
           have t9 := t1
           clear t9 t1
           refine (goodName_any a _ hz).mono ?_
           rintro e w1 ⟨rfl, hb⟩
           rw [HGA.out]
           have HB1 := Lib.hid hb
           clear hb)
        | (go_at_call 44
           refine (goodName_any b _ hz2).mono ?_
           rintro e w2 ⟨rfl, hb⟩
           rw [HGB.out]
           have HB2 := Lib.hid (bel_next HB1.out hb)
           clear hb HB1)
        | (go_at_call 76
           refine (at_no S d s a _ (H.out.next HB2.out) hz er HR.out h0).mono ?_
           rintro e w3 ⟨rfl, hb⟩
           have HB3 := Lib.hid (bel_next HB2.out hb)
           clear hb))
    go_ret
    rw [HE.out.1, HE.out.2, HR.out]
    exact ⟨rfl, Did.same H.out HB3.out⟩
  case pos =>
    obtain ⟨hd', hg', k, hs⟩ := atE_zero.1 h0
    obtain ⟨L, fb, ms, mf, vc, hD, hS⟩ := id h
    have hk := getL_lt hD hok hs
    obtain ⟨fk, hfk⟩ : ∃ fk, fb.getD k 0 = fk := ⟨_, rfl⟩
    obtain ⟨hu0, hu1⟩ := hrg.u
    have HFK := Lib.hid hfk
    have HD := Lib.hid (And.intro hD (And.intro hd' (And.intro hg' (And.intro hs (And.intro hS (And.intro hk hok))))))
    have HG := Lib.hid (And.intro hrg h)
    have HSZ := Lib.hid hsz
    have HX := Lib.hid (And.intro hd (And.intro ga (And.intro gb (And.intro hab h0))))
    clear h hok hsz hrg hd ga gb hab h0 hd' hg' hs hD hS hk hfk
    go_enter Try.func35, Try.ntmps35
    go_upto_region 11 with (first
        | (go_at_call 81
           refine (ready_any S d s _ H.out).mono ?_
           rintro e w0 ⟨rfl, hw0⟩
           have hw1 := hw0.symm
           subst hw1
           rw [if_neg HDD.out])
        | (go_at_call 44
           have t9 := t1
           clear t9 t1
           refine (goodName_any a _ hz).mono ?_
           rintro e w1 ⟨rfl, hb⟩
           rw [HGA.out]
           have HB1 := Lib.hid hb
           clear hb)
        | (go_at_call 44
           refine (goodName_any b _ hz2).mono ?_
           rintro e w2 ⟨rfl, hb⟩
           rw [HGB.out]
           have HB2 := Lib.hid (bel_next HB1.out hb)
           clear hb HB1)
        | (go_at_call 76
           refine (at_yes L fb ms mf vc d k fk HFK.out s a _ (HD.out.1.keep HB2.out.size fun b hb' => HB2.out.block b (HD.out.1.lab b hb')) hz HD.out.2.1 HD.out.2.2.1 HD.out.2.2.2.1).mono ?_
           rintro e w3 ⟨rfl, hb⟩
           have hbb := bel_next HB2.out hb
           have HB := Lib.hid (And.intro hbb (HD.out.1.keep hbb.size fun b hb' => hbb.block b (HD.out.1.lab b hb')))
           clear hb hbb))
    by_cases hf0 : s.fuse = 0
    · have HE := Lib.hid (show renameE a b s = 34 ∧ renameS a b s = spendS s by simp [renameE, renameS, HX.out.1, HX.out.2.1, HX.out.2.2.1, HX.out.2.2.2.1, HX.out.2.2.2.2, hf0, spendE])
      have HSE := Lib.hid (show spendE s = 34 by simp [spendE, hf0])
      clear hf0
      go_wp2_with (go_at_call 77
                   refine (spend_dm L fb ms mf vc d s _ (by exact HB.out.2.keep (Nat.le_refl _) (fun _ _ => rfl)) ⟨HG.out.1.o.1, by have := HG.out.1.o.2; omega⟩ HG.out.1.f).mono ?_
                   rintro e w2 ⟨rfl, hD2, hc2⟩
                   rw [HSE.out]
                   have H2 := Lib.hid (And.intro hD2 hc2)
                   clear hD2 hc2)
      go_ret
      rw [HE.out.1, HE.out.2]
      exact ⟨rfl, Did.of HD.out.2.2.2.2.1 H2.out.1 HB.out.1 (H2.out.2.mono fun j _ hj => .inl (by rw [hj, HD.out.1.ld]; omega)) fun b _ hb => hb⟩
    · have HE := Lib.hid (show renameE a b s = 0 ∧ renameS a b s = { spendS s with dchs := s.dchs ++ [.inr (.inl (a, b))], used := s.used - lenOf s b } by simp [renameE, renameS, HX.out.1, HX.out.2.1, HX.out.2.2.1, HX.out.2.2.2.1, HX.out.2.2.2.2, hf0, spendE])
      have HSE := Lib.hid (show spendE s = 0 by simp [spendE, hf0])
      clear hf0
      go_upto_region 14 with (first
            | (go_at_call 77
               refine (spend_dm L fb ms mf vc d s _ (by exact HB.out.2.keep (Nat.le_refl _) (fun _ _ => rfl)) ⟨HG.out.1.o.1, by have := HG.out.1.o.2; omega⟩ HG.out.1.f).mono ?_
               rintro e w2 ⟨rfl, hD2, hc2⟩
               rw [HSE.out]
               have hC2 : Chg S w w2 := (Chg.of_below HB.out.1 S).trans' hc2 fun j hj e => by rw [e, HD.out.2.2.2.2.1, HD.out.1.ld]; omega
               have H2 := Lib.hid (And.intro hD2 hC2)
               clear hD2 hc2 hC2))
      have hyb := H2.out.1.box
      have hyc0 := hyb.cell 0
      have hyl := hyb.lt
      cases hgb : getL b s.seen with
      | none =>
        have HL := Lib.hid (show s.less (lenOf s b) = spendS s by unfold lenOf; rw [hgb]; exact less_zero s)
        have hq := ((H2.out.1.seen).miss (k := b) (by rw [get_map, spend_seen, hgb]; rfl) hz2).2
        clear hyb
        have HH := Lib.hid (show DM w2 L d fb (s.less (lenOf s b)) ms mf vc ∧ Chg S w w2 by rw [HL.out]; exact H2.out)
        obtain ⟨fk', hge, hgk⟩ : ∃ fk', fk' = fb.getD k 0 ∧ getL a ((s.less (lenOf s b)).seen.map (bk fb)) = some fk' := ⟨_, rfl, by rw [get_map, less_seen, HD.out.2.2.2.1]; rfl⟩
        have HGK := Lib.hid hgk
        clear hge hgk
        go_wp2_with (first
          | (go_at_call 78
             refine (addD_ren d ms mf (s.less (lenOf s b)).dchs.length vc _ _ a b _ _ HH.out.1.box HH.out.1.seen HH.out.1.rc HH.out.1.parts.1 HH.out.1.parts.2.2.1 (seen_short HSZ.out fb _ hN) (by rw [less_dchs]; have := HSZ.out.d; omega) (goodN_size HGA.out).2 (goodN_size HGB.out).2 fk' (Lib.hid HGK.out)).mono ?_
             rintro e w4 ⟨rfl, v2, p1, p2, p3, p4, p5⟩
             obtain ⟨L', r1, r2, r3⟩ := HH.out.1.dir (c := .inr (.inl (a, b))) (fun a' b' e => by injection e with e; injection e with e; injection e with e1 e2; subst e1 e2; exact ⟨HX.out.2.2.2.1, k, by rw [less_seen]; exact HD.out.2.2.2.1⟩) (fun n' f e => by cases e) p1 p2 p3 p4 p5
             have H4 := Lib.hid (And.intro r1 (And.intro r2 r3))
             clear p1 p2 p3 p4 p5 r1 r2 r3))
        go_ret
        rw [HE.out.1, HE.out.2]
        have hfin := H4.out.1
        have e1 : ({ s.less (lenOf s b) with dchs := (s.less (lenOf s b)).dchs ++ [.inr (.inl (a, b))] } : Dk) = { spendS s with dchs := s.dchs ++ [.inr (.inl (a, b))], used := s.used - lenOf s b } := by rw [less_dchs]; rfl
        rw [e1] at hfin
        refine ⟨rfl, did_of hfin (HH.out.2.trans' H4.out.2.1 fun j hj hs => (HD.out.2.2.2.2.1 j).2 hs) fun b hb hne => ?_⟩
        have hsz2 := HH.out.2.size
        rw [H4.out.2.2 b (by omega)] at hne
        exact (HD.out.2.2.2.2.1 b).2 hne
      | some j =>
        have hjk := getL_lt HD.out.1 HD.out.2.2.2.2.2.2 hgb
        obtain ⟨fj, hfj⟩ : ∃ fj, fb.getD j 0 = fj := ⟨_, rfl⟩
        obtain ⟨vs, vf, vcc, us, hF⟩ := fl_fm H2.out.1 (by rw [(spend_fields s).1]; exact hjk)
        rw [hfj, spend_fl] at hF
        have hsl := hF.rs
        obtain ⟨q, hq⟩ : ∃ q, (s.fl j).seen.length = q := ⟨_, rfl⟩
        have hqm : q ≤ 140737488355328 := by have := HSZ.out.m _ (fl_mem hjk) (s.fl j).chs.length; rw [List.take_length] at this; rw [← hq]; exact this
        have HL := Lib.hid (show lenOf s b = q by unfold lenOf; rw [hgb]; simp [hq])
        rw [hq] at hsl
        obtain ⟨b0, c0, rfl⟩ := row_slice hsl
        have hxc := hF.box.cell 0
        have hxl := hF.box.lt
        have hq2 := ((H2.out.1.seen).look (k := b) (e := fj) (by rw [get_map, spend_seen, hgb]; show some (fb.getD j 0) = _; rw [hfj]) hz2).2
        have hu2 : (spendS s).used = s.used := (spend_fields s).2.2.2.2
        have hyc : w2.cell? ⟨d, 4, none⟩ = some (.int .i64 s.used) := by rw [hyb.cell 4, ← hu2]; rfl
        have hyf := hyb.free 4
        clear hsl hu2 hjk hq hfj hF hyb
        go_upto_if 53 with fail
        go_cut [] (fun wx => DM wx L d fb (s.less q) ms mf vc ∧ Chg S w wx)
        case first =>
          go_wp2
          go_region
          all_goals
            go_wp2_with fail
            go_meet
            case rel =>
              have hq := H2.out.1.dx (q := ((spendS s).quota, s.used - q, (spendS s).fuse, (spendS s).dead, (spendS s).ops)) (chg_at (Chg.refl _ _) 4 (.int .i64 (s.used - q))) (by simpa using H2.out.1.box.set_ 4 (.int .i64 (s.used - q)))
              exact ⟨hq.keep (Nat.le_refl _) (fun _ _ => rfl), ((H2.out.2).setCell (.inl ((HD.out.2.2.2.2.1 d).2 (by rw [HD.out.1.ld]; omega))) _).drew⟩
        case rest =>
          have HH := Lib.hid (show DM wc L d fb (s.less (lenOf s b)) ms mf vc ∧ Chg S w wc by rw [HL.out]; exact hcut)
          clear hcut
          obtain ⟨fk', hge, hgk⟩ : ∃ fk', fk' = fb.getD k 0 ∧ getL a ((s.less (lenOf s b)).seen.map (bk fb)) = some fk' := ⟨_, rfl, by rw [get_map, less_seen, HD.out.2.2.2.1]; rfl⟩
          have HGK := Lib.hid hgk
          clear hge hgk
          go_wp2_with (first
            | (go_at_call 78
               refine (addD_ren d ms mf (s.less (lenOf s b)).dchs.length vc _ _ a b _ _ HH.out.1.box HH.out.1.seen HH.out.1.rc HH.out.1.parts.1 HH.out.1.parts.2.2.1 (seen_short HSZ.out fb _ hN) (by rw [less_dchs]; have := HSZ.out.d; omega) (goodN_size HGA.out).2 (goodN_size HGB.out).2 fk' (Lib.hid HGK.out)).mono ?_
               rintro e w4 ⟨rfl, v2, p1, p2, p3, p4, p5⟩
               obtain ⟨L', r1, r2, r3⟩ := HH.out.1.dir (c := .inr (.inl (a, b))) (fun a' b' e => by injection e with e; injection e with e; injection e with e1 e2; subst e1 e2; exact ⟨HX.out.2.2.2.1, k, by rw [less_seen]; exact HD.out.2.2.2.1⟩) (fun n' f e => by cases e) p1 p2 p3 p4 p5
               have H4 := Lib.hid (And.intro r1 (And.intro r2 r3))
               clear p1 p2 p3 p4 p5 r1 r2 r3))
          go_ret
          rw [HE.out.1, HE.out.2]
          have hfin := H4.out.1
          have e1 : ({ s.less (lenOf s b) with dchs := (s.less (lenOf s b)).dchs ++ [.inr (.inl (a, b))] } : Dk) = { spendS s with dchs := s.dchs ++ [.inr (.inl (a, b))], used := s.used - lenOf s b } := by rw [less_dchs]; rfl
          rw [e1] at hfin
          refine ⟨rfl, did_of hfin (HH.out.2.trans' H4.out.2.1 fun j hj hs => (HD.out.2.2.2.2.1 j).2 hs) fun b hb hne => ?_⟩
          have hsz2 := HH.out.2.size
          rw [H4.out.2.2 b (by omega)] at hne
          exact (HD.out.2.2.2.2.1 b).2 hne
end Go.Proofs.Ytebeefkibbbkdaa
