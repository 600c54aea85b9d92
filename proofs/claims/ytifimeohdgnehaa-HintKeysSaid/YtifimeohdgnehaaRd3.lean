import Derived.Test.YtifimeohdgnehaaRd2
namespace Go.Proofs.Ytifimeohdgnehaa
open Go.RowKit Go.Maps

set_option maxRecDepth 100000 in
theorem octFail0 (p : Nat) (b : Option Addr) (cap : Nat) (er ea : Int) (l : List UInt8) (at_ : Nat) (w : World) (h : ORx w p b cap er ea l ⟨at_, false⟩) :
    Calls Try.prog 59 #[.pointer (some ⟨p, 0, none⟩), .int .i64 0] w fun e w' => e = .returned (.tuple #[]) ∧ w = w' := by
  have H := Lib.hid h
  clear h
  go_enter Try.func59, Try.ntmps59
  go_wp2_with (first
    | (go_at_call 60; refine (octPlace p b cap er ea l _ _ H.out).mono ?_; rintro e w1 ⟨rfl, rfl⟩)
    | (go_at_call 61; refine (octFailAt0 p b cap er ea _ l at_ _ H.out).mono ?_; rintro e w2 ⟨rfl, rfl⟩))
  go_end0
  exact ⟨rfl, rfl⟩
set_option maxRecDepth 100000 in
theorem octFail1 (p : Nat) (b : Option Addr) (cap : Nat) (er ea y : Int) (l : List UInt8) (at_ : Nat) (w : World) (h : ORx w p b cap er ea l ⟨at_, false⟩) (hy : y ≠ 0) :
    Calls Try.prog 59 #[.pointer (some ⟨p, 0, none⟩), .int .i64 y] w fun e w' => e = .returned (.tuple #[]) ∧ ORx w' p b cap y at_ l ⟨l.length, true⟩ ∧ Chg (fun k => k = p) w w' := by
  have H := Lib.hid h
  have Hy := Lib.hid hy
  clear h hy
  go_enter Try.func59, Try.ntmps59
  go_wp2_with (first
    | (go_at_call 60; refine (octPlace p b cap er ea l _ _ H.out).mono ?_; rintro e w1 ⟨rfl, rfl⟩)
    | (go_at_call 61; refine (octFailAt1 p b cap er ea y _ l at_ _ H.out Hy.out).mono ?_; rintro e w2 ⟨rfl, h2, h3⟩; have H2 := Lib.hid (And.intro h2 h3); clear h2 h3))
  go_end0
  exact ⟨rfl, H2.out.1, H2.out.2⟩

set_option maxRecDepth 100000 in
theorem octRest (p : Nat) (b : Option Addr) (cap : Nat) (er ea : Int) (l : List UInt8) (s : RSt) (w : World) (h : ORx w p b cap er ea l s) (hmx : l.length ≤ 140737488355328) :
    Calls Try.prog 37 #[.pointer (some ⟨p, 0, none⟩)] w fun e w' => e = .returned (.int .i64 ((l.length : Int) - s.at_)) ∧ ∃ n, w' = w.drewN n := by
  have hc := h.box.cell
  have hl := h.box.lt
  have hle := h.le
  obtain ⟨at_, fl⟩ := s
  simp only at hc hle
  clear h
  go_enter Try.func37, Try.ntmps37
  go_wp2
  go_quiet (fail)
  go_wp2
  go_ret
  exact ⟨rfl, _, rfl⟩

/-- What a reading call leaves: the answer, the reader behind it, nothing else changed. -/
def RAft (p : Nat) (l : List UInt8) (s : RSt) (w w' : World) : Prop := ORd w' p l s ∧ Chg (fun k => k = p) w w'
theorem RAft.same {p : Nat} {b : Option Addr} {cap : Nat} {er ea : Int} {l : List UInt8} {s : RSt} {w : World} (h : ORx w p b cap er ea l s) : RAft p l s w w := ⟨⟨_, _, _, _, h⟩, Chg.refl _ _⟩

set_option maxRecDepth 100000 in
set_option maxHeartbeats 2000000 in
theorem octUvX (p : Nat) (b : Option Addr) (cap : Nat) (er ea : Int) (l : List UInt8) (s : RSt) (w : World) (h : ORx w p b cap er ea l s) (hmx : l.length ≤ 140737488355328) :
    Calls Try.prog 36 #[.pointer (some ⟨p, 0, none⟩)] w fun e w' => e = .returned (.int .u64 (uvS l s).1) ∧ RAft p l (uvS l s).2 w w' := by
  have hc := h.box.cell
  have hf := h.box.free
  have hl := h.box.lt
  have hle := h.le
  have hcp := h.cap_
  have H := Lib.hid h
  obtain ⟨at_, fl⟩ := s
  simp only at hc hle
  clear h
  cases fl with
  | true =>
    go_enter Try.func36, Try.ntmps36
    go_wp2
    go_ret
    exact ⟨rfl, RAft.same H.out⟩
  | false =>
    have hsl := fun W => run_tail W 26 Try.underlying26 sizeU8 b l.length cap at_ hle
    have hrd : ∀ n, Rd (w.drewN n) (w.drewN n).heap.size (tailA b cap at_) (bv (l.drop at_)) := fun n => (H.out.rd.tail_ at_ hcp).mono (Nat.le_of_lt hl)
    have Hrd := Lib.hid hrd
    have hlen : (l.drop at_).length = l.length - at_ := by simp
    have Hlen := Lib.hid hlen
    clear hrd hlen
    cases hr : rdE (l.drop at_) with
    | some x =>
      obtain ⟨v, k⟩ := x
      have hb := rdE_bound hr
      rw [Hlen.out] at hb
      obtain ⟨b1, b2, b3⟩ := hb
      have HR := Lib.hid hr
      have HU : Hid (uvS l ⟨at_, false⟩ = (v, ⟨at_ + k, false⟩)) := by unfold uvS; rw [hr]; rfl
      clear hr
      go_enter Try.func36, Try.ntmps36
      go_wp2
      go_quiet ((go_at_call 58; exact Calls.quiet_of (quiet_two (octReadU_some (tailA b cap at_) (l.length - at_) (cap - at_) v k _ _ HR.out (Hrd.out _) Hlen.out (by omega)))))
      go_wp2_with (go_at_call 59; refine (octFail0 p b cap er ea l at_ _ (H.out.drewN _)).mono ?_; rintro e w1 ⟨rfl, rfl⟩)
      go_ret
      rw [HU.out]
      have h2 := (H.out.drewN nq).set_at (k := at_ + k) (by omega)
      exact ⟨rfl, ⟨_, _, _, _, by simpa using h2⟩, ((Chg.refl (fun j => j = p) w).drewN nq).set1 rfl _ _⟩
    | none =>
      have HR := Lib.hid hr
      have HU : Hid (uvS l ⟨at_, false⟩ = (0, ⟨l.length, true⟩)) := by unfold uvS; rw [hr]; rfl
      have he := errU_ne _ _ hr
      generalize hx : errU 0 (l.drop at_) = x at he
      have Hx := Lib.hid hx
      have Hne : Hid (x ≠ 0) := by show x ≠ 0; omega
      clear hr hx he
      go_enter Try.func36, Try.ntmps36
      go_wp2
      go_quiet ((go_at_call 58; exact Calls.quiet_of (quiet_two (octReadU_none (tailA b cap at_) (l.length - at_) (cap - at_) _ _ x HR.out Hx.out (Hrd.out _) Hlen.out (by omega)))))
      go_wp2_with (go_at_call 59; refine (octFail1 p b cap er ea x l at_ _ (H.out.drewN _) Hne.out).mono ?_; rintro e w1 ⟨rfl, h2, h3⟩; have hc2 := h2.box.cell; have hl2 := h2.box.lt; have H2 := Lib.hid (And.intro h2 h3); clear h2 h3)
      go_ret
      rw [HU.out]
      exact ⟨rfl, ⟨_, _, _, _, H2.out.1⟩, ((Chg.refl (fun j => j = p) w).drewN nq).trans H2.out.2⟩
theorem octUv (p : Nat) (l : List UInt8) (s : RSt) (w : World) (h : ORd w p l s) (hmx : l.length ≤ 140737488355328) :
    Calls Try.prog 36 #[.pointer (some ⟨p, 0, none⟩)] w fun e w' => e = .returned (.int .u64 (uvS l s).1) ∧ RAft p l (uvS l s).2 w w' := by
  obtain ⟨b, cap, er, ea, h⟩ := h
  exact octUvX p b cap er ea l s w h hmx
end Go.Proofs.Ytifimeohdgnehaa
