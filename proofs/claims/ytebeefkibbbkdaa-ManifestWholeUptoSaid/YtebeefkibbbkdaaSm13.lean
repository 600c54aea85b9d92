import Derived.Test.YtebeefkibbbkdaaSm12
import Derived.RegionTactic
import Derived.BigRegion
/- Truncate, Sync. -/
namespace Go.Proofs.Ytebeefkibbbkdaa
open Go.RowKit Go.Maps

set_option maxRecDepth 100000 in
set_option maxHeartbeats 16000000 in
theorem sync_any (S : Nat → Prop) (d N : Nat) (s : Dk) (n : ByteArray) (w : World) (h : Disk w S d s) (hok : s.Ok) (hsz : s.Sz N 140737488355328) (hrg : s.Rg N) (hN : N ≤ 999999999999) (hz : n.size ≤ maxLen) :
    Calls Try.prog 33 #[.pointer (some ⟨d, 0, none⟩), .string n] w fun e w' => e = .returned (.int .i64 (syncE n s)) ∧ Did w w' S d (syncS n s) := by
  by_cases h0 : atE n s = 0
  case neg =>
    have HE := Lib.hid (show syncE n s = atE n s ∧ syncS n s = s by simp [syncE, syncS, h0])
    have H := Lib.hid (And.intro h h0)
    obtain ⟨er, her⟩ : ∃ er, atE n s = er := ⟨_, rfl⟩
    have HR := Lib.hid her
    have hne : ¬ er = 0 := by rw [← her]; exact h0
    have hnb : (er != 0) = true := by rw [bne_iff_ne]; exact hne
    clear h h0 hok hsz hrg her
    go_enter Try.func33, Try.ntmps33
    go_wp2_with (go_at_call 76
                 refine (at_no S d s n _ H.out.1 hz er HR.out hne).mono ?_
                 rintro e w1 ⟨rfl, hb⟩
                 have HB := Lib.hid hb
                 clear hb)
    go_ret
    rw [HE.out.1, HE.out.2, HR.out]
    exact ⟨rfl, Did.same H.out.1 HB.out⟩
  case pos =>
    obtain ⟨hd, hg, k, hs⟩ := atE_zero.1 h0
    obtain ⟨L, fb, ms, mf, vc, hD, hS⟩ := id h
    have hk := getL_lt hD hok hs
    have hnum : s.num n = k := by unfold Dk.num; rw [hs]; rfl
    obtain ⟨hq0, hq1⟩ := hrg.q
    obtain ⟨hu0, hu1⟩ := hrg.u
    have hfm := fl_mem hk
    have hok1 := hok.okf _ hfm
    obtain ⟨fk, hfk⟩ : ∃ fk, fb.getD k 0 = fk := ⟨_, rfl⟩
    have HFK := Lib.hid hfk
    clear hfk
    have hsh := hsz.m _ hfm
    have hcl := hsz.f _ hfm

    have HD := Lib.hid (And.intro hD (And.intro hd (And.intro hg (And.intro hs (And.intro hS (And.intro hk hnum))))))
    have HX := Lib.hid h0
    have HP := Lib.hid (And.intro hok1 (And.intro hsh hcl))
    have HG := Lib.hid (And.intro hrg h)
    obtain ⟨vs0, vf0, vcc0, us0, hF0⟩ := fl_fm hD hk
    rw [HFK.out] at hF0
    have HF0 := Lib.hid hF0
    clear h h0 hok hsz hrg hD hS hd hg hs hk hnum hfm hok1 hsh hcl hF0
    go_enter Try.func33, Try.ntmps33
    go_upto_region 4 with (first
      | (go_at_call 76
         refine (at_yes L fb ms mf vc d k fk HFK.out s n _ HD.out.1 hz HD.out.2.1 HD.out.2.2.1 HD.out.2.2.2.1).mono ?_
         rintro e w1 ⟨rfl, hb⟩
         have hD1 := HD.out.1.keep hb.size fun b hb' => hb.block b (HD.out.1.lab b hb')
         have HB := Lib.hid (And.intro hb hD1)
         clear hb hD1))
    · by_cases hf0 : s.fuse = 0
      · have HE := Lib.hid (show syncE n s = 34 ∧ syncS n s = spendS s by simp [syncE, syncS, HX.out, hf0, spendE])
        have HSE := Lib.hid (show spendE s = 34 by simp [spendE, hf0])
        clear hf0
        go_wp2_with (go_at_call 77
                     refine (spend_dm L fb ms mf vc d s _ (by exact HB.out.2.keep (Nat.le_refl _) (fun _ _ => rfl)) ⟨HG.out.1.o.1, by have := HG.out.1.o.2; omega⟩ HG.out.1.f).mono ?_
                     rintro e w2 ⟨rfl, hD2, hc2⟩
                     rw [HSE.out]
                     have H2 := Lib.hid (And.intro hD2 hc2)
                     clear hD2 hc2)
        go_ret
        rw [HE.out.1, HE.out.2]
        exact ⟨rfl, Did.of HD.out.2.2.2.2.1 H2.out.1 HB.out.1 (H2.out.2.mono fun j _ hj => .inl (by rw [hj, HD.out.1.ld]; omega)) fun b _ hb => hb⟩
      · have HE := Lib.hid (show syncE n s = 0 ∧ syncS n s = (spendS s).setF k ⟨(s.fl k).seen, []⟩ by simp [syncE, syncS, HX.out, hf0, spendE, HD.out.2.2.2.2.2.2])
        have HSE := Lib.hid (show spendE s = 0 by simp [spendE, hf0])
        clear hf0
        go_wp2_with (first
            | (go_at_call 77
               refine (spend_dm L fb ms mf vc d s _ (by exact HB.out.2.keep (Nat.le_refl _) (fun _ _ => rfl)) ⟨HG.out.1.o.1, by have := HG.out.1.o.2; omega⟩ HG.out.1.f).mono ?_
               rintro e w2 ⟨rfl, hD2, hc2⟩
               rw [HSE.out]
               have hC2 : Chg S w w2 := (Chg.of_below HB.out.1 S).trans' hc2 fun j hj e => by rw [e, HD.out.2.2.2.2.1, HD.out.1.ld]; omega
               have H2 := Lib.hid (And.intro hD2 hC2)
               clear hD2 hc2 hC2)
            | (go_at_call 80
               obtain ⟨vs, vf, vcc, us, hF⟩ := fl_fm (k := k) H2.out.1 (by rw [(spend_fields s).1]; exact HD.out.2.2.2.2.2.1)
               rw [spend_fl] at hF
               have hF' := hF
               rw [HFK.out] at hF'
               refine (settleF L fk k (s.fl k) vs vf vcc us _ hF' HP.out.1 HP.out.2.1 (by rw [hF.len]; have := HP.out.2.2; omega)).mono ?_
               rintro e w4 ⟨rfl, L', v1, p1, p2, p3, p4, p5⟩
               have hfin := add_done H2.out.1 (by rw [(spend_fields s).1]; exact HD.out.2.2.2.2.2.1) (by rw [spend_fl]; exact hF) H2.out.2 (fun b _ => HD.out.2.2.2.2.1 b) (fun _ _ => rfl) p1 p2 p3 (by rw [HFK.out]; exact p4) (by rw [HFK.out]; exact p5.mono fun j _ hj => by rcases hj with h | h; exact .inl h; exact .inr (.inr (.inl h)))
               have H4 := Lib.hid hfin
               clear hfin hF hF' p1 p2 p3 p4 p5))
        go_ret
        rw [HE.out.1, HE.out.2]
        exact ⟨rfl, did_of H4.out.1 H4.out.2.1 H4.out.2.2⟩

set_option maxRecDepth 100000 in
set_option maxHeartbeats 16000000 in
theorem trunc_any (S : Nat → Prop) (d N : Nat) (s : Dk) (n : ByteArray) (x : Int) (w : World) (h : Disk w S d s) (hok : s.Ok) (hsz : s.Sz N 140737488355328) (hrg : s.Rg N) (hN : N ≤ 999999999999) (hz : n.size ≤ maxLen) :
    Calls Try.prog 89 #[.pointer (some ⟨d, 0, none⟩), .string n, .int .i64 x] w fun e w' => e = .returned (.int .i64 (truncE n x s)) ∧ Did w w' S d (truncS n x s) := by
  by_cases h0 : atE n s = 0
  case neg =>
    have HE := Lib.hid (show truncE n x s = atE n s ∧ truncS n x s = s by simp [truncE, truncS, h0])
    have H := Lib.hid (And.intro h h0)
    obtain ⟨er, her⟩ : ∃ er, atE n s = er := ⟨_, rfl⟩
    have HR := Lib.hid her
    have hne : ¬ er = 0 := by rw [← her]; exact h0
    have hnb : (er != 0) = true := by rw [bne_iff_ne]; exact hne
    clear h h0 hok hsz hrg her
    go_enter Try.func89, Try.ntmps89
    go_wp2_with (go_at_call 76
                 refine (at_no S d s n _ H.out.1 hz er HR.out hne).mono ?_
                 rintro e w1 ⟨rfl, hb⟩
                 have HB := Lib.hid hb
                 clear hb)
    go_ret
    rw [HE.out.1, HE.out.2, HR.out]
    exact ⟨rfl, Did.same H.out.1 HB.out⟩
  case pos =>
    obtain ⟨hd, hg, k, hs⟩ := atE_zero.1 h0
    obtain ⟨L, fb, ms, mf, vc, hD, hS⟩ := id h
    have hk := getL_lt hD hok hs
    have hnum : s.num n = k := by unfold Dk.num; rw [hs]; rfl
    obtain ⟨hq0, hq1⟩ := hrg.q
    obtain ⟨hu0, hu1⟩ := hrg.u
    have hfm := fl_mem hk
    have hok1 := hok.okf _ hfm
    obtain ⟨fk, hfk⟩ : ∃ fk, fb.getD k 0 = fk := ⟨_, rfl⟩
    have HFK := Lib.hid hfk
    clear hfk
    have hsh := hsz.m _ hfm
    have hcl := hsz.f _ hfm

    have HD := Lib.hid (And.intro hD (And.intro hd (And.intro hg (And.intro hs (And.intro hS (And.intro hk hnum))))))
    have HX := Lib.hid h0
    have HP := Lib.hid (And.intro hok1 (And.intro hsh hcl))
    have HG := Lib.hid (And.intro hrg h)
    obtain ⟨vs0, vf0, vcc0, us0, hF0⟩ := fl_fm hD hk
    rw [HFK.out] at hF0
    have HF0 := Lib.hid hF0
    clear h h0 hok hsz hrg hD hS hd hg hs hk hnum hfm hok1 hsh hcl hF0
    have hsl := HF0.out.rs
    obtain ⟨q, hq⟩ : ∃ q, (s.fl k).seen.length = q := ⟨_, rfl⟩
    have HQ := Lib.hid hq
    rw [hq] at hsl
    have hqm : q ≤ 140737488355328 := by have := HP.out.2.1 (s.fl k).chs.length; rw [List.take_length] at this; rw [← hq]; exact this
    obtain ⟨b0, c0, rfl⟩ := row_slice hsl
    have hfne : fk ≠ d := fun e => by have h1 := HF0.out.lab; have h2 := HD.out.1.ld; rw [e] at h1; omega
    clear hq hsl
    go_enter Try.func89, Try.ntmps89
    go_upto_region 4 with (first
      | (go_at_call 76
         refine (at_yes L fb ms mf vc d k fk HFK.out s n _ HD.out.1 hz HD.out.2.1 HD.out.2.2.1 HD.out.2.2.2.1).mono ?_
         rintro e w1 ⟨rfl, hb⟩
         have hD1 := HD.out.1.keep hb.size fun b hb' => hb.block b (HD.out.1.lab b hb')
         have hx := (HF0.out.box.below hb HF0.out.box.lt)
         have hc0 := hx.cell 0
         have hcl0 := hx.lt
         have HB := Lib.hid (And.intro hb (And.intro hD1 hx))
         clear hb hD1 hx))
    by_cases hbad : x < 0 ∨ (q : Int) < x
    · have HE := Lib.hid (show truncE n x s = 3 ∧ truncS n x s = s by simp [truncE, truncS, HX.out, HD.out.2.2.2.2.2.2, HQ.out, hbad])
      rcases (show x < 0 ∨ (¬ x < 0 ∧ (q : Int) < x) by omega) with h1 | ⟨h1, h2⟩
      all_goals
        clear hbad
        go_wp2
        go_ret
        rw [HE.out.1, HE.out.2]
        exact ⟨rfl, Did.same HG.out.2 HB.out.1⟩
    · by_cases hf0 : s.fuse = 0
      · have HE := Lib.hid (show truncE n x s = 34 ∧ truncS n x s = spendS s by simp [truncE, truncS, HX.out, HD.out.2.2.2.2.2.2, HQ.out, hbad, hf0, spendE])
        have HSE := Lib.hid (show spendE s = 34 by simp [spendE, hf0])
        have h1 : ¬ x < 0 := fun h => hbad (.inl h)
        have h2 : ¬ (q : Int) < x := fun h => hbad (.inr h)
        clear hf0 hbad
        go_wp2_with (go_at_call 77
                     refine (spend_dm L fb ms mf vc d s _ (by exact HB.out.2.1.keep (Nat.le_refl _) (fun _ _ => rfl)) ⟨HG.out.1.o.1, by have := HG.out.1.o.2; omega⟩ HG.out.1.f).mono ?_
                     rintro e w2 ⟨rfl, hD2, hc2⟩
                     rw [HSE.out]
                     have H2 := Lib.hid (And.intro hD2 hc2)
                     clear hD2 hc2)
        go_ret
        rw [HE.out.1, HE.out.2]
        exact ⟨rfl, Did.of HD.out.2.2.2.2.1 H2.out.1 HB.out.1 (H2.out.2.mono fun j _ hj => .inl (by rw [hj, HD.out.1.ld]; omega)) fun b _ hb => hb⟩
      · have HE := Lib.hid (show truncE n x s = 0 ∧ truncS n x s = { (spendS s).addC k (.inr x.toNat) with used := s.used - (q - x) } by simp [truncE, truncS, HX.out, HD.out.2.2.2.2.2.2, HQ.out, hbad, hf0, spendE])
        have HSE := Lib.hid (show spendE s = 0 by simp [spendE, hf0])
        have h1 : ¬ x < 0 := fun h => hbad (.inl h)
        have h2 : ¬ (q : Int) < x := fun h => hbad (.inr h)
        obtain ⟨y, rfl⟩ : ∃ y : Nat, x = y := ⟨x.toNat, by omega⟩
        have hyq : y ≤ q := by omega
        clear hf0 hbad
        go_upto_region 9 with (first
            | (go_at_call 77
               refine (spend_dm L fb ms mf vc d s _ (by exact HB.out.2.1.keep (Nat.le_refl _) (fun _ _ => rfl)) ⟨HG.out.1.o.1, by have := HG.out.1.o.2; omega⟩ HG.out.1.f).mono ?_
               rintro e w2 ⟨rfl, hD2, hc2⟩
               rw [HSE.out]
               have hC2 : Chg S w w2 := (Chg.of_below HB.out.1 S).trans' hc2 fun j hj e => by rw [e, HD.out.2.2.2.2.1, HD.out.1.ld]; omega
               have hx2 := HB.out.2.2.chg hc2 hfne
               have hu2 : (spendS s).used = s.used := (spend_fields s).2.2.2.2
               have hy2 := hD2.box
               have hyc : w2.cell? ⟨d, 4, none⟩ = some (.int .i64 s.used) := by rw [hy2.cell 4, ← hu2]; rfl
               have hyf := hy2.free 4
               have hyl := hy2.lt
               have hxc := hx2.cell 0
               have H2 := Lib.hid (And.intro hD2 hC2)
               clear hD2 hc2 hC2 hx2 hy2 hu2))
        clear hc0
        go_cut [] (fun wx => DM wx L d fb { spendS s with used := s.used - (q - y) } ms mf vc ∧ Chg S w wx)
        case first =>
          go_region
          all_goals
            go_wp2_with fail
            go_meet
            case rel =>
              have hq := H2.out.1.dx (q := ((spendS s).quota, s.used - (q - y), (spendS s).fuse, (spendS s).dead, (spendS s).ops)) (chg_at (Chg.refl _ _) 4 (.int .i64 (s.used - (q - y)))) (by simpa using H2.out.1.box.set_ 4 (.int .i64 (s.used - (q - y))))
              exact ⟨hq.keep (Nat.le_refl _) (fun _ _ => rfl), ((H2.out.2).setCell (.inl ((HD.out.2.2.2.2.1 d).2 (by rw [HD.out.1.ld]; omega))) _).drew⟩
        case rest =>
          obtain ⟨hD3, hC3⟩ := hcut
          have HH := Lib.hid (And.intro hD3 hC3)
          clear hD3 hC3
          have HHK := Lib.hid (show k < ({ spendS s with used := s.used - (q - y) } : Dk).files.length by show k < (spendS s).files.length; rw [(spend_fields s).1]; exact HD.out.2.2.2.2.2.1)
          have HFL := Lib.hid (show ({ spendS s with used := s.used - (q - y) } : Dk).fl k = s.fl k from spend_fl s k)
          have HYQ := Lib.hid hyq
          go_wp2_with (first
            | (go_at_call 79
               obtain ⟨vs, vf, vcc, us, hF⟩ := fl_fm (k := k) HH.out.1 HHK.out
               rw [HFL.out] at hF
               have hF' := hF
               rw [HFK.out] at hF'
               refine (addF_cut L fk k (s.fl k) vs vf vcc us y _ hF' (by rw [HQ.out]; exact HYQ.out) (by rw [hF.len]; have := HP.out.2.2; omega)).mono ?_
               rintro e w4 ⟨rfl, L', v1, v2, p1, p2, p3, p4, p5⟩
               have hfin := add_done HH.out.1 HHK.out (by rw [HFL.out]; exact hF) HH.out.2 (fun b _ => HD.out.2.2.2.2.1 b) (fun _ _ => rfl) p1 p2 p3 (by rw [HFK.out]; exact p4) (by rw [HFK.out]; exact p5.mono fun j _ hj => by rcases hj with h | h | h; exact .inl h; exact .inr (.inl h); exact .inr (.inr (.inr h)))
               have H4 := Lib.hid hfin
               clear hfin hF hF' p1 p2 p3 p4 p5))
          go_ret
          rw [HE.out.1, HE.out.2]
          have hfin := H4.out.1
          have e1 : ({ spendS s with used := s.used - (q - y) } : Dk).setF k ⟨(s.fl k).safe, (s.fl k).chs ++ [.inr y]⟩ = { (spendS s).addC k (.inr (y : Int).toNat) with used := s.used - (q - y) } := by
            unfold Dk.addC Dk.setF
            rw [spend_fl, Int.toNat_natCast]
          rw [e1] at hfin
          exact ⟨rfl, did_of hfin H4.out.2.1 H4.out.2.2⟩
end Go.Proofs.Ytebeefkibbbkdaa
