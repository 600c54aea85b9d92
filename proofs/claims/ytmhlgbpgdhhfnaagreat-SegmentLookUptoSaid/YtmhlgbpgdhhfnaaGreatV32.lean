import Derived.Test.YtmhlgbpgdhhfnaaGreatV31
set_option linter.unusedVariables false
set_option linter.unusedSimpArgs false
namespace Go.Proofs.YtmhlgbpgdhhfnaaGreat
open Go.RowKit Go.Maps Sqz

/-! chronicleref4.Encode -/
theorem shortV_le (v : List UInt8) : (shortV v).length ≤ v.length := by
  unfold shortV small
  split
  · rename_i h
    have := of_decide_eq_true h
    omega
  exact Nat.le_refl _
theorem body_le {r : Rc} (h : chkR r = 0) : (bodyR r).length ≤ 5000 := by
  obtain ⟨k1, k2, k3, k4, k5, k6, k7, k8, k9, k10⟩ := chk_ok.1 h
  have h1 := shortV_le r.val
  have u1 := uvar_le r.off.toNat
  have u2 := uvar_le r.time.toNat
  have u3 := uvar_le r.pid.toNat
  have u4 := uvar_le r.seq.toNat
  have u5 := uvar_le r.key.length
  unfold bodyR textL
  simp only [List.length_cons, List.length_append]
  split <;> simp only [List.length_append, List.length_nil] <;> omega
/-- What Encode gives: the bytes, none if the record may not be. -/
def encO (r : Rc) : List UInt8 := if chkR r = 0 then encRec csum r else []
theorem wrapB_len169 (r : Rc) : (wrapB 169 (bodyR r)).length = (bodyR r).length + 9 := wrapB_len 169 (bodyR r)
set_option maxRecDepth 100000 in
set_option maxHeartbeats 8000000 in
theorem encodeQ_any (kind off time pid seq : Int) (key val : List UInt8) (w : World) :
    Calls Tryz.prog 19 #[.agg #[.int .i64 kind, .int .i64 off, .int .i64 time, .int .i64 pid, .int .i64 seq, .string ⟨key.toArray⟩, .string ⟨val.toArray⟩]] w fun e w' => ∃ b c, e = .returned (.tuple #[.slice b (encO ⟨kind, off, time, pid, seq, key, val⟩).length c, .int .i64 (chkR ⟨kind, off, time, pid, seq, key, val⟩)]) ∧ w'.ownsRow w.heap.size 5 1 (.slice b (encO ⟨kind, off, time, pid, seq, key, val⟩).length c) (encO ⟨kind, off, time, pid, seq, key, val⟩).length (bv (encO ⟨kind, off, time, pid, seq, key, val⟩)) ∧ Below w.heap.size w w' := by
  have HZ : Hid (Below w.heap.size w (w.alloc (.cells #[.int .i64 kind, .int .i64 off, .int .i64 time, .int .i64 pid, .int .i64 seq, .string ⟨key.toArray⟩, .string ⟨val.toArray⟩] 33))) := (Below.refl _ _).alloc (Nat.le_refl _) _
  have HB0 : Hid (Box (w.alloc (.cells #[.int .i64 kind, .int .i64 off, .int .i64 time, .int .i64 pid, .int .i64 seq, .string ⟨key.toArray⟩, .string ⟨val.toArray⟩] 33)) w.heap.size 33 #[.int .i64 kind, .int .i64 off, .int .i64 time, .int .i64 pid, .int .i64 seq, .string ⟨key.toArray⟩, .string ⟨val.toArray⟩]) := Box.new w _ _
  obtain ⟨E, hE⟩ : ∃ E, chkR ⟨kind, off, time, pid, seq, key, val⟩ = E := ⟨_, rfl⟩
  by_cases h0 : E = 0
  · subst h0
    have HL : Hid (encO ⟨kind, off, time, pid, seq, key, val⟩ = wrapB 169 (bodyR ⟨kind, off, time, pid, seq, key, val⟩)) := by
      show _ = _
      unfold encO
      rw [if_pos hE, wrap_enc _ (by have := body_le hE; omega)]
    have hlen : (encO ⟨kind, off, time, pid, seq, key, val⟩).length = (bodyR ⟨kind, off, time, pid, seq, key, val⟩).length + 9 := by rw [HL.out, wrapB_len169]
    have hble := body_le hE
    rw [hlen, HL.out]
    have HE := Lib.hid hE
    rw [hE]
    clear HL hlen hE
    go_enter Tryz.func19, Tryz.ntmps19
    go_wp2_with (first
      | (go_at_call 43
         refine (chkR_any kind off time pid seq key val _).mono ?_
         rintro e w1 ⟨he, hb1⟩
         rw [HE.out] at he
         subst he
         have HX := Lib.hid (HB0.out.below hb1 (by simp))
         have H1 := Lib.hid (HZ.out.trans (hb1.mono (by simp)))
         have hxc := HX.out.cell
         have hxl := HX.out.lt
         clear hb1)
      | (go_at_call 45
         refine (bodyQ_any kind off time pid seq key val _ _ HE.out rfl).mono ?_
         rintro e w2 ⟨b2, c2, rfl, ho2, hb2⟩
         have H2 := Lib.hid (And.intro (ownsRow_rd ho2) (H1.out.trans (hb2.mono H1.out.size)))
         clear ho2 hb2)
      | (go_at_call 44
         refine (refWrap 169 _ _ _ (bodyR ⟨kind, off, time, pid, seq, key, val⟩) _ H2.out.1 rfl (by omega)).mono ?_
         rintro e w3 ⟨b3, c3, rfl, ho3, hb3⟩
         have H3 := Lib.hid (And.intro ho3 (And.intro H2.out.2.size (H2.out.2.trans (hb3.mono H2.out.2.size))))
         clear ho3 hb3))
    go_ret2
    exact ⟨b3, c3, rfl, ownsRow_le H3.out.1 H3.out.2.1, H3.out.2.2⟩
  have HL : Hid (encO ⟨kind, off, time, pid, seq, key, val⟩ = []) := by
    show _ = _
    unfold encO
    rw [if_neg (by rw [hE]; exact h0)]
  rw [HL.out]
  have HE := Lib.hid hE
  rw [hE]
  clear HL hE
  go_enter Tryz.func19, Tryz.ntmps19
  go_wp2_with (first
    | (go_at_call 43
       refine (chkR_any kind off time pid seq key val _).mono ?_
       rintro e w1 ⟨he, hb1⟩
       rw [HE.out] at he
       subst he
       have H1 := Lib.hid (HZ.out.trans (hb1.mono (by simp)))
       have hxc := (HB0.out.below hb1 (by simp)).cell
       have hxl := (HB0.out.below hb1 (by simp)).lt
       clear hb1))
  go_ret2
  exact ⟨none, 0, rfl, nil_own _ _ _ _, H1.out⟩
end Go.Proofs.YtmhlgbpgdhhfnaaGreat
