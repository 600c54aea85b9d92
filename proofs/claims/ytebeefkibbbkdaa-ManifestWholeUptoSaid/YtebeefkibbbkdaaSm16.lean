import Derived.Test.YtebeefkibbbkdaaSm15
/- Rename, SyncDir. -/
namespace Go.Proofs.Ytebeefkibbbkdaa
open Go.RowKit Go.Maps

section
variable {w w' : World} {L : Nat → Nat} {d ms mf : Nat} {fb : List Nat} {s : Dk} {vc : Value}
/-- The directory is durable. -/
theorem DM.settled (h : DM w L d fb s ms mf vc) (hok : s.Ok) (hb : Box w' d 72 (dxc ms mf (.slice none 0 0) (s.quota, s.used, s.fuse, s.dead, s.ops))) (hm : MD w' mf ((s.dchs.map (bkD fb)).foldl ddo (s.safe.map (bk fb)))) (hc : Chg (fun b => b = d ∨ b = mf) w w') :
    DM w' L d fb { s with safe := s.seen, dchs := [] } ms mf (.slice none 0 0) := by
  have hn : ∀ b, b < w.heap.size → L b ≠ 1 → L b ≠ 3 → w'.heap[b]? = w.heap[b]? := fun b hb h1 h3 => hc.block b hb fun hs => by
    rcases hs with rfl | rfl
    · exact h1 h.ld
    · exact h3 h.lmf
  refine ⟨hb, h.ld, h.lms, h.lmf, h.seen.keep (hn ms h.seen.lt (by rw [h.lms]; omega) (by rw [h.lms]; omega)), ?_, nil_own _ _ _ _, fun _ h => (by cases h), h.fl, fun k x hx => ?_, fun b hb => Nat.lt_of_lt_of_le (h.lab b hb) hc.size, h.seen_ids hok, fun n f hf => (by cases hf)⟩
  · show MD w' mf (s.seen.map (bk fb))
    unfold Dk.seen
    rw [fold_map hok.okd]
    exact hm
  · obtain ⟨vs, vf, vcc, us, hF⟩ := h.files k x hx
    exact ⟨vs, vf, vcc, us, hF.keep hc.size (fun b hb h1 h2 => hn b hb (by omega) (by omega)) (fun _ _ => rfl)⟩
end

set_option maxRecDepth 100000 in
set_option maxHeartbeats 16000000 in
theorem syncDir_any (S : Nat → Prop) (d N : Nat) (s : Dk) (w : World) (h : Disk w S d s) (hok : s.Ok) (hsz : s.Sz N 140737488355328) (hrg : s.Rg N) (hN : N ≤ 999999999999) :
    Calls Try.prog 36 #[.pointer (some ⟨d, 0, none⟩)] w fun e w' => e = .returned (.int .i64 (syncDirE s)) ∧ Did w w' S d (syncDirS s) := by
  have H := Lib.hid h
  by_cases hd : s.dead = true
  · have HE := Lib.hid (And.intro hd (show syncDirE s = 34 ∧ syncDirS s = s by simp [syncDirE, syncDirS, hd]))
    clear h hok hsz hrg hd
    go_enter Try.func36, Try.ntmps36
    go_wp2_with (go_at_call 81
                 refine (ready_any S d s _ H.out).mono ?_
                 rintro e w1 ⟨rfl, rfl⟩
                 rw [if_pos HE.out.1])
    go_ret
    rw [HE.out.2.1, HE.out.2.2]
    exact ⟨rfl, Did.same H.out (Below.refl _ _)⟩
  · obtain ⟨L, fb, ms, mf, vc, hD, hS⟩ := id h
    have H1 := Lib.hid hD
    have HS := Lib.hid hS
    have HO := Lib.hid (And.intro hok hsz)
    have HR := Lib.hid hrg
    have HD' := Lib.hid hd
    clear h hD hS hok hsz hrg hd
    by_cases hf0 : s.fuse = 0
    · have HE := Lib.hid (show syncDirE s = 34 ∧ syncDirS s = spendS s by simp [syncDirE, syncDirS, HD'.out, hf0, spendE])
      have HSE := Lib.hid (show spendE s = 34 by simp [spendE, hf0])
      clear hf0
      go_enter Try.func36, Try.ntmps36
      go_wp2_with (first
        | (go_at_call 81
           refine (ready_any S d s _ H.out).mono ?_
           rintro e w1 ⟨rfl, rfl⟩
           rw [if_neg HD'.out])
        | (go_at_call 77
           refine (spend_dm L fb ms mf vc d s _ (by exact H1.out) ⟨HR.out.o.1, by have := HR.out.o.2; omega⟩ HR.out.f).mono ?_
           rintro e w2 ⟨rfl, hD2, hc2⟩
           rw [HSE.out]
           have H2 := Lib.hid (And.intro hD2 hc2)
           clear hD2 hc2))
      go_ret
      rw [HE.out.1, HE.out.2]
      exact ⟨rfl, did_of H2.out.1 (H2.out.2.mono fun j _ hj => by rw [hj]; exact (HS.out d).2 (by rw [H1.out.ld]; omega)) fun b _ hb => (HS.out b).2 hb⟩
    · have HE := Lib.hid (show syncDirE s = 0 ∧ syncDirS s = { spendS s with safe := s.seen, dchs := [] } by simp [syncDirE, syncDirS, HD'.out, hf0, spendE])
      have HSE := Lib.hid (show spendE s = 0 by simp [spendE, hf0])
      clear hf0
      go_enter Try.func36, Try.ntmps36
      go_wp2_with (first
        | (go_at_call 81
           refine (ready_any S d s _ H.out).mono ?_
           rintro e w1 ⟨rfl, rfl⟩
           rw [if_neg HD'.out])
        | (go_at_call 77
           refine (spend_dm L fb ms mf vc d s _ (by exact H1.out) ⟨HR.out.o.1, by have := HR.out.o.2; omega⟩ HR.out.f).mono ?_
           rintro e w2 ⟨rfl, hD2, hc2⟩
           rw [HSE.out]
           have H2 := Lib.hid (And.intro hD2 hc2)
           clear hD2 hc2)
        | (go_at_call 82
           have hok2 := spend_ok HO.out.1
           have hD2 := H2.out.1
           have hdl : (spendS s).safe.length + (spendS s).dchs.length ≤ N := by rw [(spend_fields s).2.1, (spend_fields s).2.2.1]; exact HO.out.2.d
           refine (settleD d ms mf (spendS s).dchs.length vc _ _ ((spendS s).dchs.map (bkD fb)) _ hD2.box hD2.safe hD2.rc (by rw [List.length_map]) hD2.parts.2.1 hD2.parts.2.2.2 (okD_map hok2.okd) (fun c hc => by obtain ⟨c', hc', rfl⟩ := List.mem_map.1 hc; exact dcOk_of hok2 hc' fb) (fun i => by have h9 := fold_len (((spendS s).dchs.map (bkD fb)).take i) ((spendS s).safe.map (bk fb)); rw [List.length_take, List.length_map, List.length_map] at h9; omega) (by omega)).mono ?_
           rintro e w3 ⟨rfl, p1, p2, p3⟩
           have hfin := hD2.settled hok2 p1 p2 p3
           have H3 := Lib.hid (And.intro hfin p3)
           clear hok2 hD2 hdl p1 p2 p3 hfin))
      go_ret
      rw [HE.out.1, HE.out.2]
      have hfin := H3.out.1
      rw [spend_seen] at hfin
      refine ⟨rfl, did_of hfin ((H2.out.2.mono fun j _ hj => by rw [hj]; exact (HS.out d).2 (by rw [H1.out.ld]; omega)).trans' H3.out.2 fun j _ hj => ?_) fun b _ hb => (HS.out b).2 hb⟩
      rcases hj with rfl | rfl
      · exact (HS.out _).2 (by rw [H1.out.ld]; omega)
      · exact (HS.out _).2 (by rw [H1.out.lmf]; omega)
end Go.Proofs.Ytebeefkibbbkdaa
