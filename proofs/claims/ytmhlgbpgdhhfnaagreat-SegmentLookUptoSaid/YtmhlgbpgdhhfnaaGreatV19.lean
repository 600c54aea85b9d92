import Derived.Test.YtmhlgbpgdhhfnaaGreatV16
set_option linter.unusedVariables false
set_option linter.unusedSimpArgs false
namespace Go.Proofs.YtmhlgbpgdhhfnaaGreat
open Go.RowKit Go.Maps Sqz

/-! chronicleref4.same; record.short, number -/
set_option maxRecDepth 100000 in
set_option maxHeartbeats 2000000 in
theorem same4_any (A A' : Option Addr) (n c n' c' : Nat) (l l' : List UInt8) (w : World) (hA : Rd w w.heap.size A (bv l)) (hn : l.length = n) (hA' : Rd w w.heap.size A' (bv l')) (hn' : l'.length = n') (hmx : n ≤ 1000000000) (hmx' : n' ≤ 1000000000) :
    Calls Tryz.prog 20 #[.slice A n c, .slice A' n' c'] w fun e w' => e = .returned (.bool (decide (l = l'))) ∧ ∃ m, w' = w.drewN m := by
  go_enter Tryz.func20, Tryz.ntmps20
  by_cases hnn : n = n'
  · subst hnn
    have HA := Lib.hid hA
    have HA' := Lib.hid hA'
    have Hn := Lib.hid hn
    have Hn' := Lib.hid hn'
    clear hA hA' hn hn'
    go_wp2
    go_loopw [5] (fun v wr => ∃ (k x : Nat), k ≤ n ∧ v = .int .i64 k ∧ wr = w.drewN x ∧ l.take k = l'.take k) (fun v _ => n - (intOf v).toNat)
    case atStart => exact ⟨0, 0, Nat.zero_le _, rfl, rfl, rfl⟩
    case round =>
      obtain ⟨k, x, hk, rfl, rfl, htk⟩ := hrel
      have HT := Lib.hid htk
      clear htk
      by_cases hlt : k < n
      · have g1 : k < l.length := by rw [Hn.out]; exact hlt
        have g2 : k < l'.length := by rw [Hn'.out]; exact hlt
        obtain ⟨ad, rfl, had, p0⟩ := HA.out k (.int .u8 (l[k]'g1).toNat) (by simp [bv, g1])
        obtain ⟨ad', rfl, had', q0⟩ := HA'.out k (.int .u8 (l'[k]'g2).toNat) (by simp [bv, g2])
        by_cases he : l[k]'g1 = l'[k]'g2
        · have HE : Hid (l.take (k + 1) = l'.take (k + 1)) := by
            show _ = _
            rw [List.take_succ_eq_append_getElem g1, List.take_succ_eq_append_getElem g2, HT.out, he]
          rw [← he] at q0
          clear he
          generalize (l[k]'g1).toNat = y at p0 q0
          go_wp2
          go_quiet (fail)
          go_wp2
          go_roundw
          case rel => exact ⟨k + 1, _, by omega, by go_num, rfl, HE.out⟩
          case measure => simp [intOf]; omega
        have HE : Hid (decide (l = l') = false) := decide_eq_false fun e => he (by subst e; rfl)
        have hne : (l[k]'g1).toNat ≠ (l'[k]'g2).toNat := fun h => he (UInt8.toNat_inj.1 h)
        clear he
        generalize (l[k]'g1).toNat = y at p0 hne
        generalize (l'[k]'g2).toNat = z at q0 hne
        have h1 : ((y : Int) == (z : Int)) = false := by simp; omega
        have h2 : (y == z) = false := by simpa using hne
        clear hne
        go_wp2
        go_quiet (fail)
        go_wp2
        go_ret
        rw [HE.out]
        exact ⟨rfl, _, World.drewN_drewN ..⟩
      have HE : Hid (decide (l = l') = true) := by
        refine decide_eq_true ?_
        have := HT.out
        rwa [List.take_of_length_le (by rw [Hn.out]; omega), List.take_of_length_le (by rw [Hn'.out]; omega)] at this
      go_wp2
      go_ret
      rw [HE.out]
      exact ⟨rfl, _, rfl⟩
  have HE : Hid (decide (l = l') = false) := decide_eq_false fun e => hnn (by rw [← hn, ← hn', e])
  have h1 : ((n : Int) == (n' : Int)) = false := by simp; omega
  clear hA hA' hn hn'
  go_wp2
  go_ret
  rw [HE.out]
  exact ⟨rfl, 0, rfl⟩
theorem conv_bytes (W : World) (l : List UInt8) (n : Nat) (hn : l.length = n) :
    (convert 9 22 (.string ⟨l.toArray⟩)).run Tryz.prog W = .ok (.slice (some ⟨W.heap.size, 0, none⟩) n (grownCap W n 0 5)) (Lib.bytesWorld W 5 ⟨l.toArray⟩) := by
  have h := Lib.run_convert_string_bytes (P := Tryz.prog) W 9 22 5 ⟨l.toArray⟩ Tryz.underlying9 Tryz.underlying22 Tryz.underlying5
  rw [h]
  have : (⟨l.toArray⟩ : ByteArray).size = n := by rw [← hn]; rfl
  rw [this]
set_option maxRecDepth 100000 in
set_option maxHeartbeats 2000000 in
theorem short_any (val : List UInt8) (n : Nat) (w : World) (hn : val.length = n) (hmx : n ≤ 4096) :
    Calls Tryz.prog 75 #[strV val] w fun e w' => ∃ b c, e = .returned (.tuple #[.slice b (shortV val).length c, .bool (small val)]) ∧ Rd w' w'.heap.size b (bv (shortV val)) ∧ Below w.heap.size w w' := by
  have hcv := fun W => conv_bytes W val n hn
  have Hn := Lib.hid hn
  have hen := enc_le val (by omega)
  have HRB : Hid (∀ W : World, Rd (Lib.bytesWorld W 5 ⟨val.toArray⟩) (Lib.bytesWorld W 5 ⟨val.toArray⟩).heap.size (some ⟨W.heap.size, 0, none⟩) (bv val)) := fun W => by
    have := bytesWorld_rd W 5 ⟨val.toArray⟩
    simpa using this
  have HBB : Hid (∀ W : World, Below W.heap.size W (Lib.bytesWorld W 5 ⟨val.toArray⟩)) := fun W => bytesWorld_below W _ _
  have HGC : Hid (∀ W : World, n ≤ grownCap W n 0 5) := fun W => grownCap_ge W n 0 _
  have hsz : (⟨val.toArray⟩ : ByteArray).size = n := by rw [← hn]; rfl
  unfold strV
  by_cases hs : (enc val).length < n
  · have HS : Hid (small val = true) := by show _ = _; unfold small; rw [hn]; exact decide_eq_true hs
    have HV : Hid (shortV val = enc val) := by show _ = _; unfold shortV; rw [if_pos HS.out]
    have hs' : ((enc val).length : Int) < n := by omega
    clear hn
    go_enter Tryz.func75, Tryz.ntmps75
    go_wp2_with (first
      | (go_at_call 88
         refine (encode_any (some ⟨w.heap.size, 0, none⟩) n (grownCap w n 0 5) val _ (HRB.out w) Hn.out (HGC.out w) hmx).mono ?_
         rintro e w1 ⟨b1, c1, rfl, ho1, hb1⟩
         have H1 := Lib.hid (And.intro (ownsRow_rd ho1) hb1)
         clear ho1 hb1))
    go_ret2
    rw [HS.out, HV.out]
    exact ⟨b1, c1, rfl, H1.out.1, (HBB.out w).trans (H1.out.2.mono (HBB.out w).size)⟩
  have HS : Hid (small val = false) := by show _ = _; unfold small; rw [hn]; exact decide_eq_false hs
  have HV : Hid (shortV val = val) := by show _ = _; unfold shortV; rw [HS.out]; rfl
  have hs' : ¬ ((enc val).length : Int) < n := by omega
  clear hn
  go_enter Tryz.func75, Tryz.ntmps75
  go_wp2_with (first
    | (go_at_call 88
       refine (encode_any (some ⟨w.heap.size, 0, none⟩) n (grownCap w n 0 5) val _ (HRB.out w) Hn.out (HGC.out w) hmx).mono ?_
       rintro e w1 ⟨b1, c1, rfl, ho1, hb1⟩
       have H1 := Lib.hid (And.intro (ownsRow_rd ho1) hb1)
       clear ho1 hb1))
  go_ret2
  rw [HS.out, HV.out]
  refine ⟨_, _, by rw [Hn.out]; rfl, HRB.out w1, ?_⟩
  have hb := (HBB.out w).trans (H1.out.2.mono (HBB.out w).size)
  exact hb.trans ((HBB.out w1).mono hb.size)
/-- What record.number answers. -/
def NuA (p : Nat) (l : List UInt8) (u : Nat) (s' : RSt) (w w' : World) (e : Ending) : Prop := ∃ x : Int, e = .returned (.int .i64 x) ∧ (u < 9223372036854775808 → x = u) ∧ RAft p l s' w w'
set_option maxRecDepth 100000 in
set_option maxHeartbeats 2000000 in
theorem octNum (p u : Nat) (l : List UInt8) (s s' : RSt) (w : World) (h : ORd w p l s) (hu : nmS l s = (u, s')) (hmx : l.length ≤ 140737488355328) :
    Calls Tryz.prog 70 #[.pointer (some ⟨p, 0, none⟩)] w fun e w' => NuA p l u s' w w' e := by
  have H := Lib.hid h
  have hlt := (uvS_le (s := s) h.le).2.2
  cases hr : uvS l s with
  | mk v st =>
    rw [hr] at hlt
    simp only at hlt
    have HR := Lib.hid hr
    unfold nmS at hu
    rw [hr] at hu
    simp only at hu
    by_cases hb : 9223372036854775808 ≤ v
    · rw [if_pos hb] at hu
      injection hu with hu1 hu2
      subst hu1
      subst hu2
      have hfl : st.fl = false := by
        unfold uvS at hr
        split at hr
        · injection hr with e1 e2; omega
        split at hr
        · injection hr with e1 e2; rw [← e2]
        injection hr with e1 e2; omega
      have hd : decide ((9223372036854775808 : Int) ≤ v) = true := decide_eq_true (by omega)
      have HB := Lib.hid hb
      have HLT := Lib.hid hlt
      clear hr h hb hlt
      go_enter Tryz.func70, Tryz.ntmps70
      obtain ⟨at_, fl⟩ := st
      simp only at hfl
      subst hfl
      go_wp2_with (first
        | (go_at_call 85
           refine (octUvD p v l s ⟨at_, false⟩ _ H.out HR.out hmx).mono ?_
           rintro e w1 ⟨rfl, h1⟩
           have H1 := Lib.hid h1
           clear h1)
        | (go_at_call 68
           obtain ⟨b0, c0, er0, ea0, hx0⟩ := H1.out.1
           refine (octFail1 p b0 c0 er0 ea0 41 l at_ _ hx0 (by decide)).mono ?_
           rintro e w2 ⟨rfl, h2, h3⟩
           have H2 := Lib.hid (And.intro h2 h3)
           clear h2 h3 hx0))
      go_wp2
      all_goals first | (exfalso; have := HB.out; omega; done) | skip
      go_ret
      refine ⟨_, rfl, fun hlt' => absurd hlt' (by have := HB.out; omega), ?_⟩
      exact ⟨⟨_, _, _, _, H2.out.1⟩, H1.out.2.trans H2.out.2⟩
    rw [if_neg hb] at hu
    injection hu with hu1 hu2
    subst hu1
    subst hu2
    have hd : decide ((9223372036854775808 : Int) ≤ v) = false := decide_eq_false (by omega)
    have HB := Lib.hid hb
    have HLT := Lib.hid hlt
    clear hr h hb hlt
    go_enter Tryz.func70, Tryz.ntmps70
    go_wp2_with (go_at_call 85; refine (octUvD p v l s st _ H.out HR.out hmx).mono ?_; rintro e w1 ⟨rfl, h1⟩; have H1 := Lib.hid h1; clear h1)
    go_ret
    exact ⟨_, rfl, fun hlt' => (by unfold wrap64; omega), H1.out⟩
end Go.Proofs.YtmhlgbpgdhhfnaaGreat
