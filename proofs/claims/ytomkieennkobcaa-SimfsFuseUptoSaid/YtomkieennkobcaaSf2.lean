import Derived.Test.YtomkieennkobcaaSf1
/- SimfsFuse walked. -/
namespace Go.Proofs.Ytomkieennkobcaa
open Go.RowKit Go.Maps

set_option maxRecDepth 100000 in
theorem list_dead (S : Nat → Prop) (d : Nat) (s : Dk) (w : World) (h : Disk w S d s) (hd : s.dead = true) : Calls Try.prog 31 #[.pointer (some ⟨d, 0, none⟩)] w fun e w' => e = .returned (.tuple #[.slice none 0 0, .int .i64 34]) ∧ w' = w := by
  have H := Lib.hid (And.intro h hd)
  clear h hd
  go_enter Try.func31, Try.ntmps31
  go_wp2_with (go_at_call 45
               refine (ready_any S d s _ H.out.1).mono ?_
               rintro e w1 ⟨rfl, hw⟩
               have hw1 := hw.symm
               subst hw1
               rw [if_pos (by exact H.out.2)])
  go_ret2
  exact ⟨rfl, rfl⟩
theorem Dk.Inv.setFuse {s : Dk} {N : Nat} (n : Int) (h : s.Inv N) (hn : n ≤ 9223372036854775807) : (fuseS n s).Inv N := by
  unfold fuseS
  split
  · exact h
  · exact Dk.Inv.same (s' := { s with fuse := max n (-1) }) h rfl rfl rfl rfl (Nat.le_refl N) ⟨h.rg.q, h.rg.u, ⟨by show -1 ≤ max n (-1); omega, by show max n (-1) ≤ _; omega⟩, h.rg.o⟩
theorem lv_fuse {W w : World} {S : Nat → Prop} {d N : Nat} {s : Dk} (n : Int) (h : Lv W w S d s N) (hn : n ≤ 9223372036854775807) : Calls Try.prog 34 #[.pointer (some ⟨d, 0, none⟩), .int .i64 n] w fun e w' => e = .returned (.tuple #[]) ∧ Lv.Then W w w' S d (fuseS n s) N :=
  (fuse_any S d s n w h.1).mono fun _ _ ⟨h1, h2⟩ => ⟨h1, h.did h2 (h.2.2.2.setFuse n hn)⟩
def FzR (base nn : Int) (s t : Dk) : Prop := (∃ f : Int, t = s.fz f ∧ 0 ≤ f ∧ f ≤ nn ∧ s.ops - base = nn - f) ∨ (t.dead = true ∧ nn < s.ops - base)
theorem begun_ops (q : Int) : 0 ≤ (Dk.begun q).ops ∧ (Dk.begun q).ops ≤ 2 := by
  unfold Dk.begun
  split <;> simp [B1, B2]
theorem fuse_begun (q : Int) (n : Nat) : fuseS n (Dk.begun q) = (Dk.begun q).fz n := by
  have h : (Dk.begun q).dead = false := (begun_lives q).2
  unfold fuseS Dk.fz
  rw [if_neg (by rw [h]; decide)]
  rw [show max (n : Int) (-1) = n by omega]
theorem fuse_dead (n : Int) (s : Dk) : (fuseS n s).dead = s.dead := by
  unfold fuseS
  split <;> rfl
set_option maxRecDepth 100000 in
set_option maxHeartbeats 32000000 in
theorem fuse_law (q : Int) (A : Option Addr) (n c : Nat) (l : List SC) (f0 : Int) (Ap : Option Addr) (np cp : Nat) (ps : List Int) (W : World) (hA : Stp W W.heap.size A l) (hn : l.length = n) (hnm : n ≤ 99999999999) (hb : ∀ s ∈ l, s.bs.length ≤ 1048576)
    (hP : Rd W W.heap.size Ap (ps.map (Value.int .i64))) (hnp : ps.length = np) (hcp : np ≤ cp) (hwf : ∀ x ∈ ps, (Lit.int .i64 x).wf = true) (hpl : np ≤ 140737488355328) :
    Calls Try.prog 8 #[.int .i64 q, .slice A n c, .int .i64 f0, .slice Ap np cp] W fun e w' => e = .returned (.bool true) ∧ Below W.heap.size W w' := by
  have HA := Lib.hid (And.intro hA (And.intro hn hb))
  have HP := Lib.hid (And.intro hP (And.intro hnp (And.intro hcp (And.intro hwf hpl))))
  clear hA hn hb hP hnp hcp hwf hpl
  by_cases hq : 0 ≤ q ∧ q ≤ 1073741824
  · have HQ := Lib.hid hq
    clear hq
    have T0 := Lib.hid True.intro
    go_enter Try.func8, Try.ntmps8
    go_upto_if 51 with (first
      | (go_at_call 18
         have z0 := T0
         clear z0
         refine (begun_any q W W (Below.refl _ _) HQ.out).mono ?_
         rintro e w0 ⟨d, S0, rfl, h0, _, _⟩
         have H0 := Lib.hid h0
         clear h0 T0)
      | (go_at_call 18
         refine (begun_any q W w0 H0.out.2.2.1 HQ.out).mono ?_
         rintro e wb ⟨d2, R0, rfl, h0, h1, h2⟩
         have H1 := Lib.hid (show Two W wb S0 d (Dk.begun q) R0 d2 (Dk.begun q) 2 from ⟨H0.out.next h2, h0, fun b hb1 hb2 => by have := H0.out.lt b hb1; have := h1 b hb2; omega⟩)
         clear h0 h1 h2))
    have hm1 := Int.tmod_lt_of_pos f0 (show (0 : Int) < 50 by decide)
    have hm2 : -(50 : Int) < f0.tmod 50 := by
      have := Int.tmod_lt_of_pos (-f0) (show (0 : Int) < 50 by decide)
      rw [Int.neg_tmod] at this
      omega
    go_cut [13] (fun s13 wx => ∃ nn : Nat, nn < 50 ∧ s13 = .int .i64 nn ∧ wx = wb)
    case first =>
      obtain ⟨r, hr⟩ : ∃ r, f0.tmod 50 = r := ⟨_, rfl⟩
      rw [hr] at hm1 hm2 ⊢
      clear hr
      by_cases hr0 : r < 0
      · go_wp2
        go_meet
        case rel => exact ⟨(r + 50).toNat, by omega, by go_num, rfl⟩
      · go_wp2
        go_meet
        case rel => exact ⟨r.toNat, by omega, by go_num, rfl⟩
    case rest =>
      obtain ⟨nn, hnn, rfl, rfl⟩ := hcut
      clear hm1 hm2
      obtain ⟨base, hbase⟩ : ∃ base, (Dk.begun q).ops = base := ⟨_, rfl⟩
      have hbb : 0 ≤ base ∧ base ≤ 2 := by rw [← hbase]; exact begun_ops q
      have HBS := Lib.hid hbase
      clear hbase
      go_wp2_with (first
        | (go_at_call 34
           refine (lv_fuse nn H1.out.2.1 (by omega)).mono ?_
           rintro e w3 ⟨rfl, h1⟩
           rw [fuse_begun] at h1
           obtain ⟨R1, k1, _⟩ := H1.out.b (Nat.le_refl _) h1
           have H2 := Lib.hid k1
           clear h1 k1)
        | (go_at_call 35
           refine (tell_Ops R1 d2 _ _ H2.out.2.1.1).mono ?_
           rintro e w4 ⟨rfl, hw⟩
           have hw1 := hw.symm
           subst hw1
           rw [show ((Dk.begun q).fz nn).ops = base from HBS.out]))
      go_loopw [15] (fun i wr => ∃ (j : Nat) (S T : Nat → Prop) (s t : Dk), j ≤ n ∧ i = .int .i64 j ∧ Two W wr S d s T d2 t (2 + 2 * j) ∧ s.Lives ∧ FzR base nn s t) (fun i _ => n - (intOf i).toNat)
      case atStart => exact ⟨0, S0, R1, _, _, Nat.zero_le _, rfl, H2.out, begun_lives q, .inl ⟨nn, rfl, by omega, by omega, by rw [HBS.out]; omega⟩⟩
      case round =>
        obtain ⟨j, S, T, s, t, hj, rfl, hL, hl, hR⟩ := hrel
        obtain ⟨o, ho⟩ : ∃ o, s.ops = o := ⟨_, rfl⟩
        have hoo : 0 ≤ o ∧ o ≤ 2 + 2 * j := by rw [← ho]; have := hL.1.2.2.2.rg.o; omega
        by_cases hlt : j < n
        · have hk0 : (0 : Int) ≤ j := by omega
          have hk1 : (j : Int) < n := by omega
          obtain ⟨st, hst⟩ : ∃ st, l[j]? = some st := ⟨_, List.getElem?_eq_getElem (by rw [HA.out.2.1]; exact hlt)⟩
          obtain ⟨ad, rfl, had, c0, c1, c3, c4, c5, c6, c7, _⟩ := (HA.out.1.below hL.1.2.2.1).step hst
          have hok := HA.out.1.2 st (List.mem_of_getElem? hst)
          have hbs := HA.out.2.2 st (List.mem_of_getElem? hst)
          obtain ⟨k, nm, nt, x, y, Ab, bs, cb, A2, p2, c2⟩ := st
          obtain ⟨nb, hnb⟩ : ∃ nb, bs.length = nb := ⟨_, rfl⟩
          obtain ⟨np2, hnp⟩ : ∃ np2, p2.length = np2 := ⟨_, rfl⟩
          dsimp only at c0 c1 c3 c4 c5 c6 c7 hbs
          rw [hnb] at c6 hbs
          rw [hnp] at c7
          have HB := Lib.hid (And.intro hok (And.intro hnb hnp))
          have hX := Box.new wr 44 #[.int .i64 k, .string nm, .string nt, .int .i64 x, .int .i64 y, .slice Ab nb cb, .slice A2 np2 c2]
          have G0 := Lib.hid (hL.next (Below.al wr (.cells #[.int .i64 k, .string nm, .string nt, .int .i64 x, .int .i64 y, .slice Ab nb cb, .slice A2 np2 c2] 44)))
          have HX0 := Lib.hid hX
          have HNa := Lib.hid (show ¬ S wr.heap.size ∧ ∀ b, S b → b < wr.heap.size from ⟨fun h => by have := hL.1.lt _ h; omega, hL.1.lt⟩)
          have HNb := Lib.hid (show ¬ T wr.heap.size ∧ ∀ b, T b → b < wr.heap.size from ⟨fun h => by have := hL.2.1.lt _ h; omega, hL.2.1.lt⟩)
          have HL := Lib.hid (And.intro hl hR)
          have HO := Lib.hid ho
          clear hL hl hok hst hnb hnp hX hR ho
          by_cases hk : 1 ≤ k ∧ k ≤ 7
          · have HK := Lib.hid hk
            obtain ⟨hk2, hk7⟩ := hk
            have T0 := Lib.hid True.intro
            rcases HL.out.2 with ⟨f, hf, hf0, hfn, hfo⟩ | ⟨hdd, hdo⟩
            · subst hf
              obtain ⟨s2, hs2⟩ : ∃ s2, chS ⟨k, nm, nt, x, y, Ab, bs, cb, A2, p2, c2⟩ s = s2 := ⟨_, rfl⟩
              have HS2 := Lib.hid (show s2.Lives by rw [← hs2]; exact ch_lives HL.out.1)
              have hfa : s.dead = false := HL.out.1.2
              rcases fz_step (st := ⟨k, nm, nt, x, y, Ab, bs, cb, A2, p2, c2⟩) HL.out.1 hf0 with ⟨e1, e2, e3, e4⟩ | ⟨e1, e2, ⟨g1, g2, g3⟩ | ⟨g1, g2, g3⟩⟩
              · obtain ⟨e, he⟩ : ∃ e, chE ⟨k, nm, nt, x, y, Ab, bs, cb, A2, p2, c2⟩ s = e := ⟨_, rfl⟩
                rw [he] at e1 e3
                have heb : (e == 0) = false := by simpa using e1
                have HF := Lib.hid (And.intro (And.intro e2 he) (And.intro (And.intro e4 e3) (And.intro (show (s.fz f).dead = false from hfa) (And.intro (show (s.fz f).ops = o from HO.out) HO.out))))
                have HFo := Lib.hid hfo
                clear e1 e2 e3 e4 he hs2 hfa hfo
                go_wp2_with (first
                  | (go_at_call 36
                     have z0 := T0
                     clear z0
                     refine (tell_Dead _ _ _ _ G0.out.2.1.1).mono ?_
                     rintro e1 wz ⟨rfl, hw⟩
                     have hw1 := hw.symm
                     subst hw1
                     rw [HF.out.2.2.1]
                     have T1 := Lib.hid True.intro
                     clear T0)
                  | (go_at_call 25
                     have z0 := T1
                     clear z0
                     refine (lv_image G0.out.1 (by omega)).mono ?_
                     rintro e1 w1 ⟨us1, ib1, ic1, rfl, hfl, hb1⟩
                     obtain ⟨il1, hil⟩ : ∃ il, (imageL s).length = il := ⟨_, rfl⟩
                     rw [hil] at hfl ⊢
                     have G1 := Lib.hid (G0.out.next hb1)
                     have HI1 := Lib.hid (And.intro hfl (And.intro hil (show il1 ≤ _ from hil ▸ image_len (G0.out.1).2.2.2)))
                     have HX1 := Lib.hid (HX0.out.next hb1)
                     have hx1 := HX1.out.cell
                     clear hfl hil hb1
                     have T2 := Lib.hid True.intro
                     clear T1)
                  | (go_at_call 15
                     have z0 := T2
                     clear z0
                     refine (lv_crash ps Ap np cp G1.out.1 (by omega) (rd_low HP.out.1 G1.out.1.2.2.1) HP.out.2.1 HP.out.2.2.1 HP.out.2.2.2.1 HP.out.2.2.2.2).mono ?_
                     rintro e1 w2 ⟨us2, ib2, ic2, rfl, hfl, hb1⟩
                     obtain ⟨il2, hil⟩ : ∃ il, (crashL s ps).length = il := ⟨_, rfl⟩
                     rw [hil] at hfl ⊢
                     have G2 := Lib.hid (G1.out.next hb1)
                     have HI2 := Lib.hid (And.intro hfl (And.intro hil (show il2 ≤ _ from hil ▸ crash_len (G1.out.1).2.2.2 ps)))
                     have HX2 := Lib.hid (HX1.out.next hb1)
                     have hx2 := HX2.out.cell
                     clear hfl hil hb1
                     have T3 := Lib.hid True.intro
                     clear T2)
                  | (go_at_call 23
                     have z0 := T3
                     clear z0
                     refine (lv_change _ x y nm nt Ab A2 bs p2 _ _ cb c2 G2.out.1 (by omega) HB.out.1 HK.out HB.out.2.1 HB.out.2.2 (by omega)).mono ?_
                     rintro e1 w3 ⟨rfl, h1⟩
                     rw [HF.out.1.1] at h1
                     rw [HF.out.1.2]
                     obtain ⟨S3, k1, k2⟩ := G2.out.a (by omega) h1
                     have G3 := Lib.hid k1
                     have HX3 := Lib.hid (HX2.out.chg k2 HNa.out.1)
                     have hx3 := HX3.out.cell
                     clear h1 k1 k2
                     have T4 := Lib.hid True.intro
                     clear T3)
                  | (go_at_call 23
                     have z0 := T4
                     clear z0
                     refine (lv_change _ x y nm nt Ab A2 bs p2 _ _ cb c2 G3.out.2.1 (by omega) HB.out.1 HK.out HB.out.2.1 HB.out.2.2 (by omega)).mono ?_
                     rintro e1 w4 ⟨rfl, h1⟩
                     rw [HF.out.2.1.1] at h1
                     rw [HF.out.2.1.2]
                     obtain ⟨S4, k1, k2⟩ := G3.out.b (by omega) h1
                     have G4 := Lib.hid k1
                     have HX4 := Lib.hid (HX3.out.chg k2 HNb.out.1)
                     have hx4 := HX4.out.cell
                     clear h1 k1 k2
                     have T5 := Lib.hid True.intro
                     clear T4)
                  | (go_at_call 36
                     have z0 := T5
                     clear z0
                     refine (tell_Dead _ _ _ _ G4.out.2.1.1).mono ?_
                     rintro e1 wz ⟨rfl, hw⟩
                     have hw1 := hw.symm
                     subst hw1
                     rw [HF.out.2.2.1]
                     have T6 := Lib.hid True.intro
                     clear T5)
                  | (go_at_call 35
                     have z0 := T6
                     clear z0
                     refine (tell_Ops _ _ _ _ G4.out.2.1.1).mono ?_
                     rintro e1 wz ⟨rfl, hw⟩
                     have hw1 := hw.symm
                     subst hw1
                     rw [HF.out.2.2.2.1]
                     have T7 := Lib.hid True.intro
                     clear T6)
                  | (go_at_call 35
                     have z0 := T7
                     clear z0
                     refine (tell_Ops _ _ _ _ G4.out.1.1).mono ?_
                     rintro e1 wz ⟨rfl, hw⟩
                     have hw1 := hw.symm
                     subst hw1
                     rw [HF.out.2.2.2.2]
                     have T8 := Lib.hid True.intro
                     clear T7)
                  | (go_at_call 25
                     have z0 := T8
                     clear z0
                     refine (lv_image G4.out.1 (by omega)).mono ?_
                     rintro e1 w5 ⟨us5, ib5, ic5, rfl, hfl, hb1⟩
                     obtain ⟨il5, hil⟩ : ∃ il, (imageL s).length = il := ⟨_, rfl⟩
                     rw [hil] at hfl ⊢
                     have G5 := Lib.hid (G4.out.next hb1)
                     have HI5 := Lib.hid (And.intro hfl (And.intro hil (show il5 ≤ _ from hil ▸ image_len (G4.out.1).2.2.2)))
                     clear hfl hil hb1
                     have T9 := Lib.hid True.intro
                     clear T8)
                  | (go_at_call 25
                     have z0 := T9
                     clear z0
                     refine (lv_image G5.out.2.1 (by omega)).mono ?_
                     rintro e1 w6 ⟨us6, ib6, ic6, rfl, hfl, hb1⟩
                     obtain ⟨il6, hil⟩ : ∃ il, (imageL (s.fz f)).length = il := ⟨_, rfl⟩
                     rw [hil] at hfl ⊢
                     have G6 := Lib.hid (G5.out.next hb1)
                     have HI6 := Lib.hid (And.intro hfl (And.intro hil (show il6 ≤ _ from hil ▸ image_len (G5.out.2.1).2.2.2)))
                     have HI5n := Lib.hid (And.intro (HI5.out.1.keep fun b h1 h2 => hb1.block b h2) HI5.out.2)
                     clear HI5
                     have HI5 := Lib.hid HI5n.out
                     clear HI5n
                     clear hfl hil hb1
                     have T10 := Lib.hid True.intro
                     clear T9)
                  | (go_at_call 29
                     have z0 := T10
                     clear z0
                     refine (sameImage_any ib5 ib6 il5 ic5 il6 ic6 (imageL s) (imageL (s.fz f)) _ HI5.out.2.1 HI6.out.2.1 HI5.out.1.im HI6.out.1.im (by have := HI5.out.2.2; omega) (by have := HI6.out.2.2; omega) (image_small G6.out.1.2.2.2) (image_small G6.out.2.1.2.2.2)).mono ?_
                     rintro e1 w7 ⟨rfl, kk, hw⟩
                     rw [show decide ((imageL s) = (imageL (s.fz f))) = true from decide_eq_true ((image_fz s f).symm)]
                     have G7 := Lib.hid (show Two _ _ _ _ _ _ _ _ _ from hw ▸ G6.out.drewN kk)
                     clear hw
                     have T11 := Lib.hid True.intro
                     clear T10)
                  | (go_at_call 15
                     have z0 := T11
                     clear z0
                     refine (lv_crash ps Ap np cp G7.out.1 (by omega) (rd_low HP.out.1 G7.out.1.2.2.1) HP.out.2.1 HP.out.2.2.1 HP.out.2.2.2.1 HP.out.2.2.2.2).mono ?_
                     rintro e1 w8 ⟨us8, ib8, ic8, rfl, hfl, hb1⟩
                     obtain ⟨il8, hil⟩ : ∃ il, (crashL s ps).length = il := ⟨_, rfl⟩
                     rw [hil] at hfl ⊢
                     have G8 := Lib.hid (G7.out.next hb1)
                     have HI8 := Lib.hid (And.intro hfl (And.intro hil (show il8 ≤ _ from hil ▸ crash_len (G7.out.1).2.2.2 ps)))
                     clear hfl hil hb1
                     have T12 := Lib.hid True.intro
                     clear T11)
                  | (go_at_call 15
                     have z0 := T12
                     clear z0
                     refine (lv_crash ps Ap np cp G8.out.2.1 (by omega) (rd_low HP.out.1 G8.out.1.2.2.1) HP.out.2.1 HP.out.2.2.1 HP.out.2.2.2.1 HP.out.2.2.2.2).mono ?_
                     rintro e1 w9 ⟨us9, ib9, ic9, rfl, hfl, hb1⟩
                     obtain ⟨il9, hil⟩ : ∃ il, (crashL (s.fz f) ps).length = il := ⟨_, rfl⟩
                     rw [hil] at hfl ⊢
                     have G9 := Lib.hid (G8.out.next hb1)
                     have HI9 := Lib.hid (And.intro hfl (And.intro hil (show il9 ≤ _ from hil ▸ crash_len (G8.out.2.1).2.2.2 ps)))
                     have HI8n := Lib.hid (And.intro (HI8.out.1.keep fun b h1 h2 => hb1.block b h2) HI8.out.2)
                     clear HI8
                     have HI8 := Lib.hid HI8n.out
                     clear HI8n
                     clear hfl hil hb1
                     have T13 := Lib.hid True.intro
                     clear T12)
                  | (go_at_call 29
                     have z0 := T13
                     clear z0
                     refine (sameImage_any ib8 ib9 il8 ic8 il9 ic9 (crashL s ps) (crashL (s.fz f) ps) _ HI8.out.2.1 HI9.out.2.1 HI8.out.1.im HI9.out.1.im (by have := HI8.out.2.2; omega) (by have := HI9.out.2.2; omega) (crash_small G9.out.1.2.2.2 ps) (crash_small G9.out.2.1.2.2.2 ps)).mono ?_
                     rintro e1 w10 ⟨rfl, kk, hw⟩
                     rw [show decide ((crashL s ps) = (crashL (s.fz f) ps)) = true from decide_eq_true ((crash_fz s f ps).symm)]
                     have G10 := Lib.hid (show Two _ _ _ _ _ _ _ _ _ from hw ▸ G9.out.drewN kk)
                     clear hw
                     have T14 := Lib.hid True.intro
                     clear T13))
                go_roundw
                case rel => exact ⟨j + 1, _, _, s, s.fz f, by omega, by go_num, G10.out.up (by omega), HL.out.1, .inl ⟨f, rfl, hf0, hfn, HFo.out⟩⟩
                case measure => simp [intOf]; omega
              · obtain ⟨o2, ho2⟩ : ∃ o2, s2.ops = o2 := ⟨_, rfl⟩
                rw [hs2, ho2, HO.out] at e2
                rw [hs2] at g3
                rw [HO.out] at hfo
                have hne : ¬ (o2 - base = (nn : Int) + 1) := by omega
                have HF := Lib.hid (And.intro (And.intro hs2 e1) (And.intro (And.intro g3 g2) (And.intro (And.intro (show (s.fz f).dead = false from hfa) (show (s2.fz (f - 1)).dead = false from HS2.out.2)) (And.intro (show (s2.fz (f - 1)).ops = o2 from ho2) ho2))))
                have HFo := Lib.hid (show s2.ops - base = nn - (f - 1) by rw [ho2]; omega)
                have HFf := Lib.hid (show 0 ≤ f - 1 ∧ f - 1 ≤ nn by omega)
                have hob : 0 ≤ o2 ∧ o2 ≤ 3 + 2 * j := by omega
                clear e1 e2 g1 g2 g3 hs2 hfa hfo ho2
                go_wp2_with (first
                  | (go_at_call 36
                     have z0 := T0
                     clear z0
                     refine (tell_Dead _ _ _ _ G0.out.2.1.1).mono ?_
                     rintro e1 wz ⟨rfl, hw⟩
                     have hw1 := hw.symm
                     subst hw1
                     rw [HF.out.2.2.1.1]
                     have T1 := Lib.hid True.intro
                     clear T0)
                  | (go_at_call 25
                     have z0 := T1
                     clear z0
                     refine (lv_image G0.out.1 (by omega)).mono ?_
                     rintro e1 w1 ⟨us1, ib1, ic1, rfl, hfl, hb1⟩
                     obtain ⟨il1, hil⟩ : ∃ il, (imageL s).length = il := ⟨_, rfl⟩
                     rw [hil] at hfl ⊢
                     have G1 := Lib.hid (G0.out.next hb1)
                     have HI1 := Lib.hid (And.intro hfl (And.intro hil (show il1 ≤ _ from hil ▸ image_len (G0.out.1).2.2.2)))
                     have HX1 := Lib.hid (HX0.out.next hb1)
                     have hx1 := HX1.out.cell
                     clear hfl hil hb1
                     have T2 := Lib.hid True.intro
                     clear T1)
                  | (go_at_call 15
                     have z0 := T2
                     clear z0
                     refine (lv_crash ps Ap np cp G1.out.1 (by omega) (rd_low HP.out.1 G1.out.1.2.2.1) HP.out.2.1 HP.out.2.2.1 HP.out.2.2.2.1 HP.out.2.2.2.2).mono ?_
                     rintro e1 w2 ⟨us2, ib2, ic2, rfl, hfl, hb1⟩
                     obtain ⟨il2, hil⟩ : ∃ il, (crashL s ps).length = il := ⟨_, rfl⟩
                     rw [hil] at hfl ⊢
                     have G2 := Lib.hid (G1.out.next hb1)
                     have HI2 := Lib.hid (And.intro hfl (And.intro hil (show il2 ≤ _ from hil ▸ crash_len (G1.out.1).2.2.2 ps)))
                     have HX2 := Lib.hid (HX1.out.next hb1)
                     have hx2 := HX2.out.cell
                     clear hfl hil hb1
                     have T3 := Lib.hid True.intro
                     clear T2)
                  | (go_at_call 23
                     have z0 := T3
                     clear z0
                     refine (lv_change _ x y nm nt Ab A2 bs p2 _ _ cb c2 G2.out.1 (by omega) HB.out.1 HK.out HB.out.2.1 HB.out.2.2 (by omega)).mono ?_
                     rintro e1 w3 ⟨rfl, h1⟩
                     rw [HF.out.1.1] at h1
                     rw [HF.out.1.2]
                     obtain ⟨S3, k1, k2⟩ := G2.out.a (by omega) h1
                     have G3 := Lib.hid k1
                     have HX3 := Lib.hid (HX2.out.chg k2 HNa.out.1)
                     have hx3 := HX3.out.cell
                     clear h1 k1 k2
                     have T4 := Lib.hid True.intro
                     clear T3)
                  | (go_at_call 23
                     have z0 := T4
                     clear z0
                     refine (lv_change _ x y nm nt Ab A2 bs p2 _ _ cb c2 G3.out.2.1 (by omega) HB.out.1 HK.out HB.out.2.1 HB.out.2.2 (by omega)).mono ?_
                     rintro e1 w4 ⟨rfl, h1⟩
                     rw [HF.out.2.1.1] at h1
                     rw [HF.out.2.1.2]
                     obtain ⟨S4, k1, k2⟩ := G3.out.b (by omega) h1
                     have G4 := Lib.hid k1
                     have HX4 := Lib.hid (HX3.out.chg k2 HNb.out.1)
                     have hx4 := HX4.out.cell
                     clear h1 k1 k2
                     have T5 := Lib.hid True.intro
                     clear T4)
                  | (go_at_call 35
                     have z0 := T5
                     clear z0
                     refine (tell_Ops _ _ _ _ G4.out.1.1).mono ?_
                     rintro e1 wz ⟨rfl, hw⟩
                     have hw1 := hw.symm
                     subst hw1
                     rw [HF.out.2.2.2.2]
                     have T6 := Lib.hid True.intro
                     clear T5)
                  | (go_at_call 36
                     have z0 := T6
                     clear z0
                     refine (tell_Dead _ _ _ _ G4.out.2.1.1).mono ?_
                     rintro e1 wz ⟨rfl, hw⟩
                     have hw1 := hw.symm
                     subst hw1
                     rw [HF.out.2.2.1.2]
                     have T7 := Lib.hid True.intro
                     clear T6)
                  | (go_at_call 35
                     have z0 := T7
                     clear z0
                     refine (tell_Ops _ _ _ _ G4.out.2.1.1).mono ?_
                     rintro e1 wz ⟨rfl, hw⟩
                     have hw1 := hw.symm
                     subst hw1
                     rw [HF.out.2.2.2.1]
                     have T8 := Lib.hid True.intro
                     clear T7)
                  | (go_at_call 35
                     have z0 := T8
                     clear z0
                     refine (tell_Ops _ _ _ _ G4.out.1.1).mono ?_
                     rintro e1 wz ⟨rfl, hw⟩
                     have hw1 := hw.symm
                     subst hw1
                     rw [HF.out.2.2.2.2]
                     have T9 := Lib.hid True.intro
                     clear T8)
                  | (go_at_call 25
                     have z0 := T9
                     clear z0
                     refine (lv_image G4.out.1 (by omega)).mono ?_
                     rintro e1 w5 ⟨us5, ib5, ic5, rfl, hfl, hb1⟩
                     obtain ⟨il5, hil⟩ : ∃ il, (imageL s2).length = il := ⟨_, rfl⟩
                     rw [hil] at hfl ⊢
                     have G5 := Lib.hid (G4.out.next hb1)
                     have HI5 := Lib.hid (And.intro hfl (And.intro hil (show il5 ≤ _ from hil ▸ image_len (G4.out.1).2.2.2)))
                     clear hfl hil hb1
                     have T10 := Lib.hid True.intro
                     clear T9)
                  | (go_at_call 25
                     have z0 := T10
                     clear z0
                     refine (lv_image G5.out.2.1 (by omega)).mono ?_
                     rintro e1 w6 ⟨us6, ib6, ic6, rfl, hfl, hb1⟩
                     obtain ⟨il6, hil⟩ : ∃ il, (imageL (s2.fz (f - 1))).length = il := ⟨_, rfl⟩
                     rw [hil] at hfl ⊢
                     have G6 := Lib.hid (G5.out.next hb1)
                     have HI6 := Lib.hid (And.intro hfl (And.intro hil (show il6 ≤ _ from hil ▸ image_len (G5.out.2.1).2.2.2)))
                     have HI5n := Lib.hid (And.intro (HI5.out.1.keep fun b h1 h2 => hb1.block b h2) HI5.out.2)
                     clear HI5
                     have HI5 := Lib.hid HI5n.out
                     clear HI5n
                     clear hfl hil hb1
                     have T11 := Lib.hid True.intro
                     clear T10)
                  | (go_at_call 29
                     have z0 := T11
                     clear z0
                     refine (sameImage_any ib5 ib6 il5 ic5 il6 ic6 (imageL s2) (imageL (s2.fz (f - 1))) _ HI5.out.2.1 HI6.out.2.1 HI5.out.1.im HI6.out.1.im (by have := HI5.out.2.2; omega) (by have := HI6.out.2.2; omega) (image_small G6.out.1.2.2.2) (image_small G6.out.2.1.2.2.2)).mono ?_
                     rintro e1 w7 ⟨rfl, kk, hw⟩
                     rw [show decide ((imageL s2) = (imageL (s2.fz (f - 1)))) = true from decide_eq_true ((image_fz s2 (f - 1)).symm)]
                     have G7 := Lib.hid (show Two _ _ _ _ _ _ _ _ _ from hw ▸ G6.out.drewN kk)
                     clear hw
                     have T12 := Lib.hid True.intro
                     clear T11)
                  | (go_at_call 15
                     have z0 := T12
                     clear z0
                     refine (lv_crash ps Ap np cp G7.out.1 (by omega) (rd_low HP.out.1 G7.out.1.2.2.1) HP.out.2.1 HP.out.2.2.1 HP.out.2.2.2.1 HP.out.2.2.2.2).mono ?_
                     rintro e1 w8 ⟨us8, ib8, ic8, rfl, hfl, hb1⟩
                     obtain ⟨il8, hil⟩ : ∃ il, (crashL s2 ps).length = il := ⟨_, rfl⟩
                     rw [hil] at hfl ⊢
                     have G8 := Lib.hid (G7.out.next hb1)
                     have HI8 := Lib.hid (And.intro hfl (And.intro hil (show il8 ≤ _ from hil ▸ crash_len (G7.out.1).2.2.2 ps)))
                     clear hfl hil hb1
                     have T13 := Lib.hid True.intro
                     clear T12)
                  | (go_at_call 15
                     have z0 := T13
                     clear z0
                     refine (lv_crash ps Ap np cp G8.out.2.1 (by omega) (rd_low HP.out.1 G8.out.1.2.2.1) HP.out.2.1 HP.out.2.2.1 HP.out.2.2.2.1 HP.out.2.2.2.2).mono ?_
                     rintro e1 w9 ⟨us9, ib9, ic9, rfl, hfl, hb1⟩
                     obtain ⟨il9, hil⟩ : ∃ il, (crashL (s2.fz (f - 1)) ps).length = il := ⟨_, rfl⟩
                     rw [hil] at hfl ⊢
                     have G9 := Lib.hid (G8.out.next hb1)
                     have HI9 := Lib.hid (And.intro hfl (And.intro hil (show il9 ≤ _ from hil ▸ crash_len (G8.out.2.1).2.2.2 ps)))
                     have HI8n := Lib.hid (And.intro (HI8.out.1.keep fun b h1 h2 => hb1.block b h2) HI8.out.2)
                     clear HI8
                     have HI8 := Lib.hid HI8n.out
                     clear HI8n
                     clear hfl hil hb1
                     have T14 := Lib.hid True.intro
                     clear T13)
                  | (go_at_call 29
                     have z0 := T14
                     clear z0
                     refine (sameImage_any ib8 ib9 il8 ic8 il9 ic9 (crashL s2 ps) (crashL (s2.fz (f - 1)) ps) _ HI8.out.2.1 HI9.out.2.1 HI8.out.1.im HI9.out.1.im (by have := HI8.out.2.2; omega) (by have := HI9.out.2.2; omega) (crash_small G9.out.1.2.2.2 ps) (crash_small G9.out.2.1.2.2.2 ps)).mono ?_
                     rintro e1 w10 ⟨rfl, kk, hw⟩
                     rw [show decide ((crashL s2 ps) = (crashL (s2.fz (f - 1)) ps)) = true from decide_eq_true ((crash_fz s2 (f - 1) ps).symm)]
                     have G10 := Lib.hid (show Two _ _ _ _ _ _ _ _ _ from hw ▸ G9.out.drewN kk)
                     clear hw
                     have T15 := Lib.hid True.intro
                     clear T14))
                all_goals first
                  | (exfalso; omega)
                  | (go_roundw
                     case rel => exact ⟨j + 1, _, _, s2, s2.fz (f - 1), by omega, by go_num, G10.out.up (by omega), HS2.out, .inl ⟨f - 1, rfl, HFf.out.1, HFf.out.2, HFo.out⟩⟩
                     case measure => simp [intOf]; omega)
              · obtain ⟨o2, ho2⟩ : ∃ o2, s2.ops = o2 := ⟨_, rfl⟩
                subst g1
                rw [hs2, ho2, HO.out] at e2
                rw [HO.out] at hfo
                have hne : o2 - base = (nn : Int) + 1 := by omega
                obtain ⟨t2, ht2⟩ : ∃ t2, { s.fz 0 with dead := true } = t2 := ⟨_, rfl⟩
                rw [ht2] at g3
                have htd : t2.dead = true := by rw [← ht2]
                have HT := Lib.hid (show imageL t2 = imageL s ∧ crashL t2 ps = crashL s ps from ⟨by rw [← ht2]; rfl, by rw [← ht2, crash_off, crash_fz]⟩)
                have hat : atE fstN t2 = 34 := by unfold atE; rw [if_pos htd]
                have HF := Lib.hid (And.intro (And.intro hs2 e1) (And.intro (And.intro g3 g2) (And.intro (And.intro (show (s.fz 0).dead = false from hfa) htd) (And.intro hat ho2))))
                have HFo := Lib.hid (show (nn : Int) < s2.ops - base by rw [ho2]; omega)
                have hob : 0 ≤ o2 ∧ o2 ≤ 3 + 2 * j := by omega
                clear e1 e2 g2 g3 hs2 hfa hfo ho2 ht2 htd hat
                go_wp2_with (first
                  | (go_at_call 36
                     have z0 := T0
                     clear z0
                     refine (tell_Dead _ _ _ _ G0.out.2.1.1).mono ?_
                     rintro e1 wz ⟨rfl, hw⟩
                     have hw1 := hw.symm
                     subst hw1
                     rw [HF.out.2.2.1.1]
                     have T1 := Lib.hid True.intro
                     clear T0)
                  | (go_at_call 25
                     have z0 := T1
                     clear z0
                     refine (lv_image G0.out.1 (by omega)).mono ?_
                     rintro e1 w1 ⟨us1, ib1, ic1, rfl, hfl, hb1⟩
                     obtain ⟨il1, hil⟩ : ∃ il, (imageL s).length = il := ⟨_, rfl⟩
                     rw [hil] at hfl ⊢
                     have G1 := Lib.hid (G0.out.next hb1)
                     have HI1 := Lib.hid (And.intro hfl (And.intro hil (show il1 ≤ _ from hil ▸ image_len (G0.out.1).2.2.2)))
                     have HX1 := Lib.hid (HX0.out.next hb1)
                     have hx1 := HX1.out.cell
                     have hbz := Lib.hid hb1.size
                     clear hfl hil hb1
                     have HZHI1 := Lib.hid (show wr.heap.size ≤ (wr.alloc (.cells #[.int .i64 k, .string nm, .string nt, .int .i64 x, .int .i64 y, .slice Ab nb cb, .slice A2 np2 c2] 44)).heap.size by simp)
                     have T2 := Lib.hid True.intro
                     clear T1)
                  | (go_at_call 15
                     have z0 := T2
                     clear z0
                     refine (lv_crash ps Ap np cp G1.out.1 (by omega) (rd_low HP.out.1 G1.out.1.2.2.1) HP.out.2.1 HP.out.2.2.1 HP.out.2.2.2.1 HP.out.2.2.2.2).mono ?_
                     rintro e1 w2 ⟨us2, ib2, ic2, rfl, hfl, hb1⟩
                     obtain ⟨il2, hil⟩ : ∃ il, (crashL s ps).length = il := ⟨_, rfl⟩
                     rw [hil] at hfl ⊢
                     have G2 := Lib.hid (G1.out.next hb1)
                     have HI2 := Lib.hid (And.intro hfl (And.intro hil (show il2 ≤ _ from hil ▸ crash_len (G1.out.1).2.2.2 ps)))
                     have HX2 := Lib.hid (HX1.out.next hb1)
                     have hx2 := HX2.out.cell
                     have HI1n := Lib.hid (And.intro (HI1.out.1.keep fun b h1 h2 => hb1.block b h2) HI1.out.2)
                     clear HI1
                     have HI1 := Lib.hid HI1n.out
                     clear HI1n
                     clear hfl hil hb1
                     have HZHI2 := Lib.hid (show wr.heap.size ≤ w1.heap.size from Nat.le_trans HZHI1.out hbz.out)
                     have T3 := Lib.hid True.intro
                     clear T2)
                  | (go_at_call 23
                     have z0 := T3
                     clear z0
                     refine (lv_change _ x y nm nt Ab A2 bs p2 _ _ cb c2 G2.out.1 (by omega) HB.out.1 HK.out HB.out.2.1 HB.out.2.2 (by omega)).mono ?_
                     rintro e1 w3 ⟨rfl, h1⟩
                     rw [HF.out.1.1] at h1
                     rw [HF.out.1.2]
                     obtain ⟨S3, k1, k2⟩ := G2.out.a (by omega) h1
                     have G3 := Lib.hid k1
                     have HX3 := Lib.hid (HX2.out.chg k2 HNa.out.1)
                     have hx3 := HX3.out.cell
                     have HI1n := Lib.hid (And.intro (HI1.out.1.keep fun b h1 h2 => k2.block b h2 fun hs => by have := HNa.out.2 b hs; have := HZHI1.out; omega) HI1.out.2)
                     clear HI1
                     have HI1 := Lib.hid HI1n.out
                     clear HI1n
                     have HI2n := Lib.hid (And.intro (HI2.out.1.keep fun b h1 h2 => k2.block b h2 fun hs => by have := HNa.out.2 b hs; have := HZHI2.out; omega) HI2.out.2)
                     clear HI2
                     have HI2 := Lib.hid HI2n.out
                     clear HI2n
                     clear h1 k1 k2
                     have T4 := Lib.hid True.intro
                     clear T3)
                  | (go_at_call 23
                     have z0 := T4
                     clear z0
                     refine (lv_change _ x y nm nt Ab A2 bs p2 _ _ cb c2 G3.out.2.1 (by omega) HB.out.1 HK.out HB.out.2.1 HB.out.2.2 (by omega)).mono ?_
                     rintro e1 w4 ⟨rfl, h1⟩
                     rw [HF.out.2.1.1] at h1
                     rw [HF.out.2.1.2]
                     obtain ⟨S4, k1, k2⟩ := G3.out.b (by omega) h1
                     have G4 := Lib.hid k1
                     have HX4 := Lib.hid (HX3.out.chg k2 HNb.out.1)
                     have hx4 := HX4.out.cell
                     have HI1n := Lib.hid (And.intro (HI1.out.1.keep fun b h1 h2 => k2.block b h2 fun hs => by have := HNb.out.2 b hs; have := HZHI1.out; omega) HI1.out.2)
                     clear HI1
                     have HI1 := Lib.hid HI1n.out
                     clear HI1n
                     have HI2n := Lib.hid (And.intro (HI2.out.1.keep fun b h1 h2 => k2.block b h2 fun hs => by have := HNb.out.2 b hs; have := HZHI2.out; omega) HI2.out.2)
                     clear HI2
                     have HI2 := Lib.hid HI2n.out
                     clear HI2n
                     clear h1 k1 k2
                     have T5 := Lib.hid True.intro
                     clear T4)
                  | (go_at_call 35
                     have z0 := T5
                     clear z0
                     refine (tell_Ops _ _ _ _ G4.out.1.1).mono ?_
                     rintro e1 wz ⟨rfl, hw⟩
                     have hw1 := hw.symm
                     subst hw1
                     rw [HF.out.2.2.2.2]
                     have T6 := Lib.hid True.intro
                     clear T5)
                  | (go_at_call 31
                     have z0 := T6
                     clear z0
                     refine (list_dead _ _ _ _ G4.out.2.1.1 HF.out.2.2.1.2).mono ?_
                     rintro e1 wz ⟨rfl, hw⟩
                     have hw1 := hw.symm
                     subst hw1
                     have T7 := Lib.hid True.intro
                     clear T6)
                  | (go_at_call 17
                     have z0 := T7
                     clear z0
                     refine (lv_read fstN 0 0 G4.out.2.1 (by decide)).mono ?_
                     rintro e1 w5 ⟨rb, rc, rfl, _, hb1⟩
                     rw [show readE fstN 0 0 t2 = 34 by unfold readE; rw [if_pos (by rw [HF.out.2.2.2.1]; decide), HF.out.2.2.2.1]]
                     have G5 := Lib.hid (G4.out.next hb1)
                     have HI1n := Lib.hid (And.intro (HI1.out.1.keep fun b h1 h2 => hb1.block b h2) HI1.out.2)
                     clear HI1
                     have HI1 := Lib.hid HI1n.out
                     clear HI1n
                     have HI2n := Lib.hid (And.intro (HI2.out.1.keep fun b h1 h2 => hb1.block b h2) HI2.out.2)
                     clear HI2
                     have HI2 := Lib.hid HI2n.out
                     clear HI2n
                     clear hb1
                     have T8 := Lib.hid True.intro
                     clear T7)
                  | (go_at_call 22
                     have z0 := T8
                     clear z0
                     refine (lv_size fstN G5.out.2.1 (by decide)).mono ?_
                     rintro e1 w6 ⟨rfl, hb1⟩
                     rw [HF.out.2.2.2.1]
                     have G6 := Lib.hid (G5.out.next hb1)
                     have HI1n := Lib.hid (And.intro (HI1.out.1.keep fun b h1 h2 => hb1.block b h2) HI1.out.2)
                     clear HI1
                     have HI1 := Lib.hid HI1n.out
                     clear HI1n
                     have HI2n := Lib.hid (And.intro (HI2.out.1.keep fun b h1 h2 => hb1.block b h2) HI2.out.2)
                     clear HI2
                     have HI2 := Lib.hid HI2n.out
                     clear HI2n
                     clear hb1
                     have T9 := Lib.hid True.intro
                     clear T8)
                  | (go_at_call 36
                     have z0 := T9
                     clear z0
                     refine (tell_Dead _ _ _ _ G6.out.2.1.1).mono ?_
                     rintro e1 wz ⟨rfl, hw⟩
                     have hw1 := hw.symm
                     subst hw1
                     rw [HF.out.2.2.1.2]
                     have T10 := Lib.hid True.intro
                     clear T9)
                  | (go_at_call 25
                     have z0 := T10
                     clear z0
                     refine (lv_image G6.out.2.1 (by omega)).mono ?_
                     rintro e1 w7 ⟨us7, ib7, ic7, rfl, hfl, hb1⟩
                     obtain ⟨il7, hil⟩ : ∃ il, (imageL t2).length = il := ⟨_, rfl⟩
                     rw [hil] at hfl ⊢
                     have G7 := Lib.hid (G6.out.next hb1)
                     have HI7 := Lib.hid (And.intro hfl (And.intro hil (show il7 ≤ _ from hil ▸ image_len (G6.out.2.1).2.2.2)))
                     have HI1n := Lib.hid (And.intro (HI1.out.1.keep fun b h1 h2 => hb1.block b h2) HI1.out.2)
                     clear HI1
                     have HI1 := Lib.hid HI1n.out
                     clear HI1n
                     have HI2n := Lib.hid (And.intro (HI2.out.1.keep fun b h1 h2 => hb1.block b h2) HI2.out.2)
                     clear HI2
                     have HI2 := Lib.hid HI2n.out
                     clear HI2n
                     clear hfl hil hb1
                     have T11 := Lib.hid True.intro
                     clear T10)
                  | (go_at_call 29
                     have z0 := T11
                     clear z0
                     refine (sameImage_any ib7 ib1 il7 ic7 il1 ic1 (imageL t2) (imageL s) _ HI7.out.2.1 HI1.out.2.1 HI7.out.1.im HI1.out.1.im (by have := HI7.out.2.2; omega) (by have := HI1.out.2.2; omega) (image_small G7.out.2.1.2.2.2) (HT.out.1 ▸ image_small G7.out.2.1.2.2.2)).mono ?_
                     rintro e1 w8 ⟨rfl, kk, hw⟩
                     rw [show decide ((imageL t2) = (imageL s)) = true from decide_eq_true (HT.out.1)]
                     have G8 := Lib.hid (show Two _ _ _ _ _ _ _ _ _ from hw ▸ G7.out.drewN kk)
                     have hw2 := hw
                     clear hw
                     have HI2n := Lib.hid (And.intro (HI2.out.1.keep (w' := w8) fun b _ _ => by rw [hw2]; rfl) HI2.out.2)
                     clear HI2
                     have HI2 := Lib.hid HI2n.out
                     clear HI2n hw2
                     have T12 := Lib.hid True.intro
                     clear T11)
                  | (go_at_call 15
                     have z0 := T12
                     clear z0
                     refine (lv_crash ps Ap np cp G8.out.2.1 (by omega) (rd_low HP.out.1 G8.out.1.2.2.1) HP.out.2.1 HP.out.2.2.1 HP.out.2.2.2.1 HP.out.2.2.2.2).mono ?_
                     rintro e1 w9 ⟨us9, ib9, ic9, rfl, hfl, hb1⟩
                     obtain ⟨il9, hil⟩ : ∃ il, (crashL t2 ps).length = il := ⟨_, rfl⟩
                     rw [hil] at hfl ⊢
                     have G9 := Lib.hid (G8.out.next hb1)
                     have HI9 := Lib.hid (And.intro hfl (And.intro hil (show il9 ≤ _ from hil ▸ crash_len (G8.out.2.1).2.2.2 ps)))
                     have HI2n := Lib.hid (And.intro (HI2.out.1.keep fun b h1 h2 => hb1.block b h2) HI2.out.2)
                     clear HI2
                     have HI2 := Lib.hid HI2n.out
                     clear HI2n
                     clear hfl hil hb1
                     have T13 := Lib.hid True.intro
                     clear T12)
                  | (go_at_call 29
                     have z0 := T13
                     clear z0
                     refine (sameImage_any ib9 ib2 il9 ic9 il2 ic2 (crashL t2 ps) (crashL s ps) _ HI9.out.2.1 HI2.out.2.1 HI9.out.1.im HI2.out.1.im (by have := HI9.out.2.2; omega) (by have := HI2.out.2.2; omega) (crash_small G9.out.2.1.2.2.2 ps) (HT.out.2 ▸ crash_small G9.out.2.1.2.2.2 ps)).mono ?_
                     rintro e1 w10 ⟨rfl, kk, hw⟩
                     rw [show decide ((crashL t2 ps) = (crashL s ps)) = true from decide_eq_true (HT.out.2)]
                     have G10 := Lib.hid (show Two _ _ _ _ _ _ _ _ _ from hw ▸ G9.out.drewN kk)
                     clear hw
                     have T14 := Lib.hid True.intro
                     clear T13))
                all_goals first
                  | (exfalso; omega)
                  | (go_roundw
                     case rel => exact ⟨j + 1, _, _, s2, t2, by omega, by go_num, G10.out.up (by omega), HS2.out, .inr ⟨HF.out.2.2.1.2, HFo.out⟩⟩
                     case measure => simp [intOf]; omega)
            · have HF := Lib.hid (And.intro hdd (And.intro (ch_dead (st := ⟨k, nm, nt, x, y, Ab, bs, cb, A2, p2, c2⟩) hdd) hdo))
              clear hdd hdo
              go_wp2_with (first
                | (go_at_call 36
                   have z0 := T0
                   clear z0
                   refine (tell_Dead _ _ _ _ G0.out.2.1.1).mono ?_
                   rintro e1 wz ⟨rfl, hw⟩
                   have hw1 := hw.symm
                   subst hw1
                   rw [HF.out.1]
                   have T1 := Lib.hid True.intro
                   clear T0)
                | (go_at_call 23
                   have z0 := T1
                   clear z0
                   refine (lv_change _ x y nm nt Ab A2 bs p2 _ _ cb c2 G0.out.2.1 (by omega) HB.out.1 HK.out HB.out.2.1 HB.out.2.2 (by omega)).mono ?_
                   rintro e1 w1 ⟨rfl, h1⟩
                   rw [HF.out.2.1.2] at h1
                   rw [HF.out.2.1.1]
                   obtain ⟨S1, k1, k2⟩ := G0.out.b (by omega) h1
                   have G1 := Lib.hid k1
                   have HX1 := Lib.hid (HX0.out.chg k2 HNb.out.1)
                   have hx1 := HX1.out.cell
                   clear h1 k1 k2
                   have T2 := Lib.hid True.intro
                   clear T1))
              go_roundw
              case rel => exact ⟨j + 1, _, _, s, t, by omega, by go_num, G1.out.up (by omega), HL.out.1, .inr ⟨HF.out.1, HF.out.2.2⟩⟩
              case measure => simp [intOf]; omega
          · have HK := Lib.hid hk
            rcases (show k < 1 ∨ 7 < k by omega) with hk | hk
            all_goals
              go_wp2
              go_roundw
              case rel => exact ⟨j + 1, S, T, s, t, by omega, by go_num, G0.out.up (by omega), HL.out⟩
              case measure => simp [intOf]; omega
        · have HL := Lib.hid (And.intro hL hR)
          have HO := Lib.hid ho
          have T0 := Lib.hid True.intro
          obtain ⟨dd, hdd⟩ : ∃ dd, t.dead = dd := ⟨_, rfl⟩
          have hdc : (dd = false ∧ ¬ ((nn : Int) < o - base) ∧ base ≤ o) ∨ (dd = true ∧ (nn : Int) < o - base ∧ base ≤ o) := by
            rcases hR with ⟨f, hf, hf0, hfn, hfo⟩ | ⟨h1, h2⟩
            · left
              rw [ho] at hfo
              refine ⟨?_, by omega, by omega⟩
              rw [← hdd, hf]
              exact hl.2
            · right
              rw [ho] at h2
              refine ⟨?_, h2, by omega⟩
              rw [← hdd]
              exact h1
          have HD := Lib.hid hdd
          clear hL hR ho hl hdd
          rcases hdc with ⟨rfl, hd1, hd2⟩ | ⟨rfl, hd1, hd2⟩
          all_goals
            go_wp2_with (first
              | (go_at_call 34
                 refine (lv_fuse (-1) HL.out.1.2.1 (by decide)).mono ?_
                 rintro e w3 ⟨rfl, h1⟩
                 obtain ⟨R3, k1, _⟩ := HL.out.1.b (Nat.le_refl _) h1
                 have H3 := Lib.hid k1
                 clear h1 k1)
              | (go_at_call 36
                 refine (tell_Dead _ _ _ _ H3.out.2.1.1).mono ?_
                 rintro e w4 ⟨rfl, hw⟩
                 have hw1 := hw.symm
                 subst hw1
                 rw [fuse_dead, HD.out])
              | (go_at_call 35
                 refine (tell_Ops _ _ _ _ H3.out.1.1).mono ?_
                 rintro e w4 ⟨rfl, hw⟩
                 have hw1 := hw.symm
                 subst hw1
                 rw [HO.out]))
            all_goals first
              | (exfalso; omega)
              | (go_ret
                 exact ⟨by first | rfl | (simp; omega) | simp, H3.out.1.2.2.1⟩)
  · have HQ := Lib.hid hq
    clear hq
    go_enter Try.func8, Try.ntmps8
    go_wp2_with (first
      | (go_at_call 18
         refine (begun_no q W HQ.out).mono ?_
         rintro e w0 ⟨rfl, h0⟩
         have H0 := Lib.hid h0
         clear h0))
    go_ret
    exact ⟨rfl, H0.out⟩
end Go.Proofs.Ytomkieennkobcaa
