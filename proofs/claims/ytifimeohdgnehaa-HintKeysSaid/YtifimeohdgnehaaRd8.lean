import Derived.Test.YtifimeohdgnehaaRd7
namespace Go.Proofs.Ytifimeohdgnehaa
open Go.RowKit Go.Maps

theorem run_part2 (W : World) (b : Option Addr) (len cap k m : Nat) (lo h : Int) (hlo : lo = k) (hh : h = k + m) (hm : k + m ≤ cap) :
    (Instr.slice 26 (.slice b len cap) (some (.int .i64 lo)) (some (.int .i64 h)) none).run Try.prog W = .ok (.slice (tailA b cap k) m (cap - k)) W := by
  subst hlo
  exact run_part W 26 Try.underlying26 sizeU8 b len cap k m h hh hm

set_option maxRecDepth 100000 in
set_option maxHeartbeats 4000000 in
theorem refTx (p m : Nat) (l : List UInt8) (s : RSt) (w : World) (h : RRd w p l s) (hmx : l.length ≤ 140737488355328) (hm : m ≤ 1000000) :
    Calls Try.prog 44 #[.pointer (some ⟨p, 0, none⟩), .int .i64 m] w fun e w' => e = .returned (strV (txS m l s).1) ∧ SAft p l (txS m l s).2 w w' := by
  obtain ⟨b, cap, er, ea, h⟩ := h
  have hc := h.box.cell
  have hf := h.box.free
  have hl := h.box.lt
  have hle := h.le
  have hcp := h.cap_
  have hfl := h.fl
  obtain ⟨at_, fl⟩ := s
  simp only at hc hle hfl
  cases fl with
  | true =>
    have hne : (er != 0) = true := by simpa using hfl
    have H := Lib.hid h
    clear h hfl
    go_enter Try.func44, Try.ntmps44
    go_wp2
    go_ret
    exact ⟨rfl, SAft.same H.out⟩
  | false =>
    obtain rfl : er = 0 := by
      rcases Classical.em (er = 0) with e | e
      · exact e
      · exact absurd (hfl.2 e) (by simp)
    have H := Lib.hid h
    clear h hfl
    have hsl := fun W => run_tail W 26 Try.underlying26 sizeU8 b l.length cap at_ hle
    have hrd : ∀ n, Rd (w.drewN n) (w.drewN n).heap.size (tailA b cap at_) (bv (l.drop at_)) := fun n => (H.out.rd.tail_ at_ hcp).mono (Nat.le_of_lt hl)
    have Hrd := Lib.hid hrd
    have hlen : (l.drop at_).length = l.length - at_ := by simp
    have Hlen := Lib.hid hlen
    clear hrd hlen
    cases hr : rdE (l.drop at_) with
    | none =>
      have HR := Lib.hid hr
      have HU : Hid (txS m l ⟨at_, false⟩ = ([], ⟨l.length, true⟩)) := by unfold txS; rw [hr]; rfl
      have he := errU_ne _ _ hr
      generalize hx : errU 0 (l.drop at_) = x at he
      have Hx := Lib.hid hx
      have Hne : Hid (x ≠ 0) := by show x ≠ 0; omega
      have hx0 : (x == 0) = false := by simpa using Hne.out
      have hx1 : (x != 0) = true := by simpa using Hne.out
      clear hr hx he
      go_enter Try.func44, Try.ntmps44
      go_wp2
      go_quiet ((go_at_call 63; exact Calls.quiet_of (quiet_two (refReadU_none (tailA b cap at_) (l.length - at_) (cap - at_) _ _ x HR.out Hx.out (Hrd.out _) Hlen.out (by omega)))))
      go_wp2
      go_quiet (fail)
      go_wp2_with (go_at_call 64; refine (refFail1 p b cap ea x l at_ _ (by first | exact (H.out.drewN _).drewN _ | exact H.out.drewN _) Hne.out).mono ?_; rintro e w1 ⟨rfl, h2, h3⟩; have H2 := Lib.hid (And.intro h2 h3); clear h2 h3)
      go_ret
      rw [HU.out]
      exact ⟨rfl, ⟨_, _, _, _, H2.out.1⟩, ((by first | exact ((Chg.refl (fun j => j = p) w).drewN _).drewN _ | exact (Chg.refl (fun j => j = p) w).drewN _ : Chg (fun j => j = p) w _)).trans H2.out.2⟩
    | some x =>
      obtain ⟨v, k⟩ := x
      have hb := rdE_bound hr
      rw [Hlen.out] at hb
      obtain ⟨b1, b2, b3⟩ := hb
      have HR := Lib.hid hr
      by_cases o1 : v ≤ m
      · have o3 : (v : Int) ≤ m := by omega
        have od1 : decide (m < v) = false := by simp; omega
        have hw1 : IntKind.i64.wrap ((l.length : Int) - at_) = (l.length : Int) - at_ := Go.IntWalk.i64_in _ (by omega)
        have hw2 : IntKind.i64.wrap ((l.length : Int) - at_ - k) = (l.length : Int) - at_ - k := Go.IntWalk.i64_in _ (by omega)
        have hw3 : IntKind.u64.wrap ((l.length : Int) - at_ - k) = (l.length : Int) - at_ - k := by rw [IntKind.wrap_u64]; omega
        have Hw := Lib.hid (And.intro hw1 (And.intro hw2 hw3))
        clear hw1 hw2 hw3
        by_cases o2 : v ≤ l.length - (at_ + k)
        · have HU : Hid (txS m l ⟨at_, false⟩ = ((l.drop (at_ + k)).take v, ⟨at_ + k + v, false⟩)) := by have hok : v ≤ m ∧ v ≤ l.length - (at_ + k) := ⟨o1, o2⟩; unfold txS; rw [hr]; exact if_pos hok
          have o4 : (v : Int) ≤ (l.length : Int) - at_ - k := by omega
          have o5 : ¬ (l.length : Int) - at_ - k < (v : Int) := by omega
          have Ho5 := Lib.hid (show decide ((l.length : Int) - at_ - k < (v : Int)) = false by simp; omega)
          clear hr o5
          go_enter Try.func44, Try.ntmps44
          go_wp2
          go_quiet ((go_at_call 63; exact Calls.quiet_of (quiet_two (refReadU_some (tailA b cap at_) (l.length - at_) (cap - at_) v k _ _ HR.out (Hrd.out _) Hlen.out (by omega)))))
          go_wp2
          obtain ⟨nq1, hnq⟩ : ∃ m, m = nq := ⟨nq, rfl⟩
          subst hnq
          obtain ⟨hw1, hw2, hw3⟩ := Hw.out
          have o5 := Ho5.out
          go_quiet (fail)
          clear hw1 hw2 hw3 o5
          go_wp2
          have h2 := (H.out.drewN (nq1 + nq)).set_at (k := at_ + k + v) (by omega)
          have hc2 := h2.box.cell
          simp only [Int.natCast_add] at hc2
          have H2 := Lib.hid h2
          have hsl2 := fun W => run_part2 W b l.length cap (at_ + k) v ((at_ : Int) + k) ((at_ : Int) + k + v) (by omega) (by omega) (by omega)
          have hst := fun n => run_str ((((w.drewN (nq1 + nq)).setCell ⟨p, 1, none⟩ (.int .i64 ((at_ : Int) + k + v))).drewN n)) p (tailA b cap (at_ + k)) v (cap - (at_ + k)) ((l.drop (at_ + k)).take v) (by simp; omega)
            (by have := (((H2.out.drewN n).rd).tail_ (at_ + k) hcp).take_ v; simpa using this)
          clear h2 hc hf
          go_quiet (fail)
          go_wp2
          go_ret
          rw [HU.out]
          refine ⟨rfl, ⟨_, _, _, _, by simpa using H2.out.drewN _⟩, ?_⟩
          exact (((Chg.refl (fun j => j = p) w).drewN _).set1 rfl _ _).drewN _
        · have HU : Hid (txS m l ⟨at_, false⟩ = ([], ⟨l.length, true⟩)) := by have hok : ¬ (v ≤ m ∧ v ≤ l.length - (at_ + k)) := fun h => o2 h.2; unfold txS; rw [hr]; exact if_neg hok
          have HN : Hid ((10 : Int) ≠ 0) := by show (10 : Int) ≠ 0; decide
          have o4 : (l.length : Int) - at_ - k < (v : Int) := by omega
          clear hr
          go_enter Try.func44, Try.ntmps44
          go_wp2
          go_quiet ((go_at_call 63; exact Calls.quiet_of (quiet_two (refReadU_some (tailA b cap at_) (l.length - at_) (cap - at_) v k _ _ HR.out (Hrd.out _) Hlen.out (by omega)))))
          go_wp2
          obtain ⟨hw1, hw2, hw3⟩ := Hw.out
          have o5 : decide ((l.length : Int) - at_ - k < (v : Int)) = true := by simp; omega
          go_quiet (fail)
          clear hw1 hw2 hw3 o5
          go_wp2_with (go_at_call 64; refine (refFail1 p b cap ea _ l at_ _ (by first | exact (H.out.drewN _).drewN _ | exact H.out.drewN _) HN.out).mono ?_; rintro e w1 ⟨rfl, h2, h3⟩; have H2 := Lib.hid (And.intro h2 h3); clear h2 h3)
          go_ret
          rw [HU.out]
          exact ⟨rfl, ⟨_, _, _, _, H2.out.1⟩, ((by first | exact ((Chg.refl (fun j => j = p) w).drewN _).drewN _ | exact (Chg.refl (fun j => j = p) w).drewN _ : Chg (fun j => j = p) w _)).trans H2.out.2⟩
      · have od1 : decide (m < v) = true := by simp; omega
        have HU : Hid (txS m l ⟨at_, false⟩ = ([], ⟨l.length, true⟩)) := by have hok : ¬ (v ≤ m ∧ v ≤ l.length - (at_ + k)) := fun h => o1 h.1; unfold txS; rw [hr]; exact if_neg hok
        have HN : Hid ((14 : Int) ≠ 0) := by show (14 : Int) ≠ 0; decide
        have o4 : (m : Int) < (v : Int) := by omega
        clear hr
        go_enter Try.func44, Try.ntmps44
        go_wp2
        go_quiet ((go_at_call 63; exact Calls.quiet_of (quiet_two (refReadU_some (tailA b cap at_) (l.length - at_) (cap - at_) v k _ _ HR.out (Hrd.out _) Hlen.out (by omega)))))
        go_wp2
        go_quiet (fail)
        go_wp2_with (go_at_call 64; refine (refFail1 p b cap ea _ l at_ _ (by first | exact (H.out.drewN _).drewN _ | exact H.out.drewN _) HN.out).mono ?_; rintro e w1 ⟨rfl, h2, h3⟩; have H2 := Lib.hid (And.intro h2 h3); clear h2 h3)
        go_ret
        rw [HU.out]
        exact ⟨rfl, ⟨_, _, _, _, H2.out.1⟩, ((by first | exact ((Chg.refl (fun j => j = p) w).drewN _).drewN _ | exact (Chg.refl (fun j => j = p) w).drewN _ : Chg (fun j => j = p) w _)).trans H2.out.2⟩
end Go.Proofs.Ytifimeohdgnehaa
