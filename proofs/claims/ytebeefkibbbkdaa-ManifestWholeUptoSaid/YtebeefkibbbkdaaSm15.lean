import Derived.Test.YtebeefkibbbkdaaSm14
import Derived.RegionTactic
import Derived.BigRegion
/- Remove, Rename, SyncDir. -/
namespace Go.Proofs.Ytebeefkibbbkdaa
open Go.RowKit Go.Maps

theorem spend_seen (s : Dk) : (spendS s).seen = s.seen := by
  obtain ⟨_, e2, e3, _, _⟩ := spend_fields s
  unfold Dk.seen; rw [e2, e3]
/-- The labels of a disk's own blocks part. -/
theorem DM.parts {w : World} {L : Nat → Nat} {d ms mf : Nat} {fb : List Nat} {s : Dk} {vc : Value} (h : DM w L d fb s ms mf vc) : d ≠ ms ∧ d ≠ mf ∧ (∀ b, vc.ownBlock = some b → b ≠ d ∧ b ≠ ms) ∧ ∀ b, vc.ownBlock = some b → b ≠ d ∧ b ≠ mf := by
  have h1 := h.ld
  have h2 := h.lms
  have h3 := h.lmf
  refine ⟨fun e => by rw [e] at h1; omega, fun e => by rw [e] at h1; omega, fun b hb => ?_, fun b hb => ?_⟩
  · have h4 := h.lc b hb
    exact ⟨fun e => by rw [e] at h4; omega, fun e => by rw [e] at h4; omega⟩
  · have h4 := h.lc b hb
    exact ⟨fun e => by rw [e] at h4; omega, fun e => by rw [e] at h4; omega⟩
def Dk.less (s : Dk) (n : Int) : Dk := { spendS s with used := s.used - n }
theorem less_seen (s : Dk) (n : Int) : (s.less n).seen = s.seen := spend_seen s
theorem less_dchs (s : Dk) (n : Int) : (s.less n).dchs = s.dchs := (spend_fields s).2.2.1
theorem less_files (s : Dk) (n : Int) : (s.less n).files = s.files := (spend_fields s).1
theorem seen_short {s : Dk} {N M : Nat} (h : s.Sz N M) (fb : List Nat) (n : Int) (hN : N ≤ 999999999999) : ((s.less n).seen.map (bk fb)).length < 1000000000000 := by
  rw [List.length_map, less_seen]
  have h2 := fold_len s.dchs s.safe
  have h3 := h.d
  unfold Dk.seen at *
  omega

set_option maxRecDepth 100000 in
set_option maxHeartbeats 16000000 in
theorem remove_any (S : Nat → Prop) (d N : Nat) (s : Dk) (n : ByteArray) (w : World) (h : Disk w S d s) (hok : s.Ok) (hsz : s.Sz N 140737488355328) (hrg : s.Rg N) (hN : N ≤ 999999999999) (hz : n.size ≤ maxLen) :
    Calls Try.prog 26 #[.pointer (some ⟨d, 0, none⟩), .string n] w fun e w' => e = .returned (.int .i64 (removeE n s)) ∧ Did w w' S d (removeS n s) := by
  by_cases h0 : atE n s = 0
  case neg =>
    have HE := Lib.hid (show removeE n s = atE n s ∧ removeS n s = s by simp [removeE, removeS, h0])
    have H := Lib.hid (And.intro h h0)
    obtain ⟨er, her⟩ : ∃ er, atE n s = er := ⟨_, rfl⟩
    have HR := Lib.hid her
    have hne : ¬ er = 0 := by rw [← her]; exact h0
    have hnb : (er != 0) = true := by rw [bne_iff_ne]; exact hne
    clear h h0 hok hsz hrg her
    go_enter Try.func26, Try.ntmps26
    go_wp2_with (go_at_call 76
                 refine (at_no S d s n _ H.out.1 hz er HR.out hne).mono ?_
                 rintro e w1 ⟨rfl, hb⟩
                 have HB := Lib.hid hb
                 clear hb)
    go_ret
    rw [HE.out.1, HE.out.2, HR.out]
    exact ⟨rfl, Did.same H.out.1 HB.out⟩
  case pos =>
    obtain ⟨hd, hg, k, hs⟩ := atE_zero.1 h0
    obtain ⟨L, fb, ms, mf, vc, hD, hS⟩ := id h
    have hk := getL_lt hD hok hs
    have hnum : s.num n = k := by unfold Dk.num; rw [hs]; rfl
    obtain ⟨hq0, hq1⟩ := hrg.q
    obtain ⟨hu0, hu1⟩ := hrg.u
    have hfm := fl_mem hk
    have hok1 := hok.okf _ hfm
    obtain ⟨fk, hfk⟩ : ∃ fk, fb.getD k 0 = fk := ⟨_, rfl⟩
    have HFK := Lib.hid hfk
    clear hfk
    have hsh := hsz.m _ hfm
    have hcl := hsz.f _ hfm
    have HSZ := Lib.hid (And.intro hsz hok)
    have HD := Lib.hid (And.intro hD (And.intro hd (And.intro hg (And.intro hs (And.intro hS (And.intro hk hnum))))))
    have HX := Lib.hid h0
    have HP := Lib.hid (And.intro hok1 (And.intro hsh hcl))
    have HG := Lib.hid (And.intro hrg h)
    obtain ⟨vs0, vf0, vcc0, us0, hF0⟩ := fl_fm hD hk
    rw [HFK.out] at hF0
    have HF0 := Lib.hid hF0
    clear h h0 hok hsz hrg hD hS hd hg hs hk hnum hfm hok1 hsh hcl hF0
    have hsl := HF0.out.rs
    obtain ⟨q, hq⟩ : ∃ q, (s.fl k).seen.length = q := ⟨_, rfl⟩
    have HQ := Lib.hid (And.intro hq (show lenOf s n = q by unfold lenOf; rw [HD.out.2.2.2.1]; simp [hq]))
    rw [hq] at hsl
    have hqm : q ≤ 140737488355328 := by have := HP.out.2.1 (s.fl k).chs.length; rw [List.take_length] at this; rw [← hq]; exact this
    obtain ⟨b0, c0, rfl⟩ := row_slice hsl
    have hfne : fk ≠ d := fun e => by have h1 := HF0.out.lab; have h2 := HD.out.1.ld; rw [e] at h1; omega
    clear hq hsl
    go_enter Try.func26, Try.ntmps26
    go_upto_region 4 with (first
      | (go_at_call 76
         refine (at_yes L fb ms mf vc d k fk HFK.out s n _ HD.out.1 hz HD.out.2.1 HD.out.2.2.1 HD.out.2.2.2.1).mono ?_
         rintro e w1 ⟨rfl, hb⟩
         have hD1 := HD.out.1.keep hb.size fun b hb' => hb.block b (HD.out.1.lab b hb')
         have hx := (HF0.out.box.below hb HF0.out.box.lt)
         have hc0 := hx.cell 0
         have hcl0 := hx.lt
         have HB := Lib.hid (And.intro hb (And.intro hD1 hx))
         clear hb hD1 hx))
    by_cases hf0 : s.fuse = 0
    · have HE := Lib.hid (show removeE n s = 34 ∧ removeS n s = spendS s by simp [removeE, removeS, HX.out, hf0, spendE])
      have HSE := Lib.hid (show spendE s = 34 by simp [spendE, hf0])
      clear hf0
      go_wp2_with (go_at_call 77
                   refine (spend_dm L fb ms mf vc d s _ (by exact HB.out.2.1.keep (Nat.le_refl _) (fun _ _ => rfl)) ⟨HG.out.1.o.1, by have := HG.out.1.o.2; omega⟩ HG.out.1.f).mono ?_
                   rintro e w2 ⟨rfl, hD2, hc2⟩
                   rw [HSE.out]
                   have H2 := Lib.hid (And.intro hD2 hc2)
                   clear hD2 hc2)
      go_ret
      rw [HE.out.1, HE.out.2]
      exact ⟨rfl, Did.of HD.out.2.2.2.2.1 H2.out.1 HB.out.1 (H2.out.2.mono fun j _ hj => .inl (by rw [hj, HD.out.1.ld]; omega)) fun b _ hb => hb⟩
    · have HE := Lib.hid (show removeE n s = 0 ∧ removeS n s = { spendS s with dchs := s.dchs ++ [.inr (.inr n)], used := s.used - q } by simp [removeE, removeS, HX.out, hf0, spendE, HQ.out.2])
      have HSE := Lib.hid (show spendE s = 0 by simp [spendE, hf0])
      clear hf0
      · go_upto_region 7 with (first
            | (go_at_call 77
               refine (spend_dm L fb ms mf vc d s _ (by exact HB.out.2.1.keep (Nat.le_refl _) (fun _ _ => rfl)) ⟨HG.out.1.o.1, by have := HG.out.1.o.2; omega⟩ HG.out.1.f).mono ?_
               rintro e w2 ⟨rfl, hD2, hc2⟩
               rw [HSE.out]
               have hC2 : Chg S w w2 := (Chg.of_below HB.out.1 S).trans' hc2 fun j hj e => by rw [e, HD.out.2.2.2.2.1, HD.out.1.ld]; omega
               have hx2 := HB.out.2.2.chg hc2 hfne
               have hu2 : (spendS s).used = s.used := (spend_fields s).2.2.2.2
               have hy2 := hD2.box
               have hyc : w2.cell? ⟨d, 4, none⟩ = some (.int .i64 s.used) := by rw [hy2.cell 4, ← hu2]; rfl
               have hyf := hy2.free 4
               have hyl := hy2.lt
               have hxc := hx2.cell 0
               have H2 := Lib.hid (And.intro hD2 hC2)
               clear hD2 hc2 hC2 hx2 hy2 hu2))
        clear hc0
        · go_cut [] (fun wx => DM wx L d fb (s.less q) ms mf vc ∧ Chg S w wx)
          case first =>
            go_region
            all_goals
              go_wp2_with fail
              go_meet
              case rel =>
                have hq := H2.out.1.dx (q := ((spendS s).quota, s.used - q, (spendS s).fuse, (spendS s).dead, (spendS s).ops)) (chg_at (Chg.refl _ _) 4 (.int .i64 (s.used - q))) (by simpa using H2.out.1.box.set_ 4 (.int .i64 (s.used - q)))
                exact ⟨hq.keep (Nat.le_refl _) (fun _ _ => rfl), ((H2.out.2).setCell (.inl ((HD.out.2.2.2.2.1 d).2 (by rw [HD.out.1.ld]; omega))) _).drew⟩
          case rest =>
            obtain ⟨hD3, hC3⟩ := hcut
            have HH := Lib.hid (And.intro hD3 hC3)
            clear hD3 hC3
            go_wp2_with (first
              | (go_at_call 78
                 refine (addD_rem d ms mf (s.less q).dchs.length vc _ _ n _ _ HH.out.1.box HH.out.1.seen HH.out.1.rc HH.out.1.parts.1 HH.out.1.parts.2.2.1 (by rw [less_dchs]; have := HSZ.out.1.d; omega) (goodN_size HD.out.2.2.1).2).mono ?_
                 rintro e w4 ⟨rfl, v2, p1, p2, p3, p4, p5⟩
                 obtain ⟨L', r1, r2, r3⟩ := HH.out.1.dir (c := .inr (.inr n)) (fun a b e => by cases e) (fun n' f e => by cases e) p1 p2 p3 p4 p5
                 have H4 := Lib.hid (And.intro r1 (And.intro r2 r3))
                 clear p1 p2 p3 p4 p5 r1 r2 r3))
            go_ret
            rw [HE.out.1, HE.out.2]
            have hfin := H4.out.1
            have e1 : ({ s.less q with dchs := (s.less q).dchs ++ [.inr (.inr n)] } : Dk) = { spendS s with dchs := s.dchs ++ [.inr (.inr n)], used := s.used - q } := by rw [less_dchs]; rfl
            rw [e1] at hfin
            refine ⟨rfl, did_of hfin (HH.out.2.trans' H4.out.2.1 fun j hj hs => (HD.out.2.2.2.2.1 j).2 hs) fun b hb hne => ?_⟩
            have hsz2 := HH.out.2.size
            rw [H4.out.2.2 b (by omega)] at hne
            exact (HD.out.2.2.2.2.1 b).2 hne
end Go.Proofs.Ytebeefkibbbkdaa
