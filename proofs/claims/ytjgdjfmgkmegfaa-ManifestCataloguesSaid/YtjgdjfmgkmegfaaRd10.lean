import Derived.Test.YtjgdjfmgkmegfaaRd9
namespace Go.Proofs.Ytjgdjfmgkmegfaa
open Go.RowKit Go.Maps

theorem Chg.of_grown {w w' : World} {row : Option Nat} (h : w.grownBy w' row) : Chg (fun k => some k = row) w w' := ⟨h.os, h.tape, h.output, h.size, fun k hk hn => h.block k hk hn⟩
/-- A reader that has failed. -/
def badS (l : List UInt8) (s : RSt) : RSt := if s.fl = true then s else ⟨l.length, true⟩
theorem badS_fl (l : List UInt8) (s : RSt) : (badS l s).fl = true := by unfold badS; split <;> simp_all
theorem badS_le {l : List UInt8} {s : RSt} (h : s.at_ ≤ l.length) : (badS l s).at_ ≤ l.length := by unfold badS; split <;> simp_all
/-- n bytes can be taken. -/
def okS (n : Nat) (l : List UInt8) (s : RSt) : Bool := !s.fl && decide (s.at_ + n ≤ l.length)
def tkS (n : Nat) (l : List UInt8) (s : RSt) : List UInt8 × RSt := if okS n l s then ((l.drop s.at_).take n, ⟨s.at_ + n, false⟩) else ([], badS l s)
theorem tkS_ok {n : Nat} {l : List UInt8} {s : RSt} (hf : s.fl = false) (h : s.at_ + n ≤ l.length) : tkS n l s = ((l.drop s.at_).take n, ⟨s.at_ + n, false⟩) := by
  unfold tkS okS; rw [hf, if_pos (by simp [h])]
theorem tkS_bad {n : Nat} {l : List UInt8} {s : RSt} (h : s.fl = true ∨ l.length < s.at_ + n) : tkS n l s = ([], badS l s) := by
  unfold tkS okS
  rw [if_neg]
  rcases h with h | h
  · simp [h]
  · simp; omega
theorem tkS_len {n : Nat} {l : List UInt8} {s : RSt} : (tkS n l s).1.length ≤ n := by
  unfold tkS; split
  · simp; omega
  · simp

set_option maxRecDepth 100000 in
set_option maxHeartbeats 2000000 in
theorem octTakeBad (p : Nat) (n : Nat) (l : List UInt8) (s : RSt) (w : World) (h : ORd w p l s) (hb : s.fl = true ∨ l.length < s.at_ + n) (hmx : l.length ≤ 140737488355328) :
    Calls Try.prog 89 #[.pointer (some ⟨p, 0, none⟩), .int .i64 n] w fun e w' => e = .returned (.slice none 0 0) ∧ RAft p l (badS l s) w w' := by
  obtain ⟨b, cap, er, ea, h⟩ := h
  have hc := h.box.cell
  have hl := h.box.lt
  have hle := h.le
  have H := Lib.hid h
  obtain ⟨at_, fl⟩ := s
  simp only at hc hle hb
  clear h
  cases fl with
  | true =>
    clear hb
    go_enter Try.func89, Try.ntmps89
    go_wp2
    go_ret
    exact ⟨rfl, RAft.same H.out⟩
  | false =>
    have hb2 : l.length < at_ + n := by
      rcases hb with h | h
      · cases h
      · exact h
    have hg : (l.length : Int) - at_ < n := by omega
    have H10 : Hid ((10 : Int) ≠ 0) := by show (10 : Int) ≠ 0; decide
    clear hb
    go_enter Try.func89, Try.ntmps89
    go_wp2_with (first
      | (go_at_call 82; refine (octRest p b cap er ea l _ _ H.out hmx).mono ?_; rintro e w1 ⟨rfl, m, rfl⟩)
      | (go_at_call 84; refine (octFail1 p b cap er ea _ l at_ _ (H.out.drewN _) H10.out).mono ?_; rintro e w2 ⟨rfl, h2, h3⟩; have H2 := Lib.hid (And.intro h2 h3); clear h2 h3))
    go_ret
    exact ⟨rfl, ⟨_, _, _, _, H2.out.1⟩, ((Chg.refl (fun j => j = p) w).drewN _).trans H2.out.2⟩

/-- What take answers: a slice that reads as these bytes. -/
theorem octTakeS (p : Nat) (n : Nat) (l : List UInt8) (s : RSt) (w : World) (h : ORd w p l s) (hmx : l.length ≤ 140737488355328) :
    Calls Try.prog 89 #[.pointer (some ⟨p, 0, none⟩), .int .i64 n] w fun e w' => ∃ A c, e = .returned (.slice A (tkS n l s).1.length c) ∧ Rd w' p A (bv (tkS n l s).1) ∧ RAft p l (tkS n l s).2 w w' := by
  by_cases hb : s.fl = true ∨ l.length < s.at_ + n
  · rw [tkS_bad hb]
    exact (octTakeBad p n l s w h hb hmx).mono fun e w' ⟨h1, h2⟩ => ⟨none, 0, h1, Rd.nil _ _ _, h2⟩
  · obtain ⟨at_, fl⟩ := s
    simp only [not_or, Bool.not_eq_true] at hb
    obtain ⟨rfl, hlt⟩ := hb
    have hle : at_ + n ≤ l.length := by omega
    rw [tkS_ok rfl hle]
    obtain ⟨b, cap, er, ea, h⟩ := h
    have hlen : ((l.drop at_).take n).length = n := by simp; omega
    refine (octTake p b cap n er ea l at_ w h hle hmx).mono fun e w' ⟨h1, h2, h3⟩ => ⟨tailA b cap at_, cap - at_, by rw [h1]; simp only [hlen], ((h2.rd).tail_ at_ h2.cap_).take_ n, ⟨_, _, _, _, h2⟩, h3⟩

def hd0 : List UInt8 → UInt8
  | [] => 0
  | c :: _ => c
set_option maxRecDepth 100000 in
set_option maxHeartbeats 2000000 in
theorem octByte (p : Nat) (l : List UInt8) (s : RSt) (w : World) (h : ORd w p l s) (hmx : l.length ≤ 140737488355328) :
    Calls Try.prog 79 #[.pointer (some ⟨p, 0, none⟩)] w fun e w' => e = .returned (.int .u8 (hd0 (tkS 1 l s).1).toNat) ∧ RAft p l (tkS 1 l s).2 w w' := by
  have H := Lib.hid h
  have hln := tkS_len (n := 1) (l := l) (s := s)
  clear h
  generalize hr : tkS 1 l s = r at hln
  obtain ⟨t, s'⟩ := r
  have Hr := Lib.hid hr
  clear hr
  simp only at hln
  cases t with
  | nil =>
    go_enter Try.func79, Try.ntmps79
    go_wp2_with (go_at_call 89; refine (octTakeS p 1 l s _ H.out hmx).mono ?_; rintro e w1 ⟨A, c, he, h1, h2⟩; rw [Hr.out] at he h1 h2; simp only [List.length_nil] at he; subst he; have HA := Lib.hid h2; clear h1 h2)
    refine wp_loop_rounds 1 ?_
    rw [rounds_succ]
    go_wp2
    go_ret
    exact ⟨rfl, HA.out⟩
  | cons x r =>
    obtain rfl : r = [] := by cases r with
      | nil => rfl
      | cons _ _ => simp at hln
    go_enter Try.func79, Try.ntmps79
    go_wp2_with (go_at_call 89; refine (octTakeS p 1 l s _ H.out hmx).mono ?_; rintro e w1 ⟨A, c, he, h1, h2⟩; rw [Hr.out] at he h1 h2; simp only [List.length_singleton] at he; subst he; obtain ⟨ad, rfl, _, hcell⟩ := h1 0 (.int .u8 x.toNat) rfl; rw [show ad.add 0 = ad from rfl] at hcell; have HA := Lib.hid h2; clear h1 h2)
    refine wp_loop_rounds 1 ?_
    rw [rounds_succ]
    go_wp2
    go_ret
    exact ⟨rfl, HA.out⟩
end Go.Proofs.Ytjgdjfmgkmegfaa
