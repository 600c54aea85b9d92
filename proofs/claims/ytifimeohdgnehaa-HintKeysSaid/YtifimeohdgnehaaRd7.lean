import Derived.Test.YtifimeohdgnehaaRd6
namespace Go.Proofs.Ytifimeohdgnehaa
open Go.RowKit Go.Maps

theorem refReadU_some (A : Option Addr) (n c v k : Nat) (l : List UInt8) (w : World) (hr : rdE l = some (v, k)) (hA : Rd w w.heap.size A (bv l)) (hn : l.length = n) (hmx : n ≤ 140737488355328) :
    Calls Try.prog 63 #[.slice A n c] w fun e w' => e = .returned (.tuple #[.int .u64 v, .int .i64 k, .int .i64 0]) ∧ w = w' :=
  (refReadU A n c l w hA hn hmx).mono fun e w' ⟨h, hw⟩ => ⟨(by
    rcases h with ⟨v', k', h1, _, _, _, _, h2⟩ | ⟨h1, _⟩
    · rw [hr] at h1; cases h1; exact h2
    · rw [hr] at h1; cases h1), hw⟩
theorem refReadU_none (A : Option Addr) (n c : Nat) (l : List UInt8) (w : World) (x : Int) (hr : rdE l = none) (hx : errU 0 l = x) (hA : Rd w w.heap.size A (bv l)) (hn : l.length = n) (hmx : n ≤ 140737488355328) :
    Calls Try.prog 63 #[.slice A n c] w fun e w' => e = .returned (.tuple #[.int .u64 0, .int .i64 0, .int .i64 x]) ∧ w = w' :=
  (refReadU A n c l w hA hn hmx).mono fun e w' ⟨h, hw⟩ => ⟨(by
    rcases h with ⟨v', k', h1, _⟩ | ⟨_, _, h2⟩
    · rw [hr] at h1; cases h1
    · rw [hx] at h2; exact h2), hw⟩

/-- A reader of the document's side at block p. -/
structure RRx (W : World) (p : Nat) (b : Option Addr) (cap : Nat) (er ea : Int) (l : List UInt8) (s : RSt) : Prop where
  box : Box W p 94 #[.slice b l.length cap, .int .i64 s.at_, .int .i64 er, .int .i64 ea]
  rd : Rd W p b (bv l)
  cap_ : l.length ≤ cap
  le : s.at_ ≤ l.length
  fl : s.fl = true ↔ er ≠ 0
def RRd (W : World) (p : Nat) (l : List UInt8) (s : RSt) : Prop := ∃ b cap er ea, RRx W p b cap er ea l s
section
variable {W W' : World} {p cap : Nat} {b : Option Addr} {er ea : Int} {l : List UInt8} {s : RSt}
theorem RRx.chg {S : Nat → Prop} (h : RRx W p b cap er ea l s) (hc : Chg S W W') (hS : ∀ k, S k → p < k) : RRx W' p b cap er ea l s :=
  ⟨h.box.chg hc (fun e => by have := hS _ e; omega), h.rd.keep fun q hq => by
    have hk := hc.block q.block (by have := h.box.lt; omega) (fun e => by have := hS _ e; omega)
    simp [World.cell?, hk], h.cap_, h.le, h.fl⟩
theorem RRd.chg {S : Nat → Prop} (h : RRd W p l s) (hc : Chg S W W') (hS : ∀ k, S k → p < k) : RRd W' p l s :=
  let ⟨b, cap, er, ea, h⟩ := h; ⟨b, cap, er, ea, h.chg hc hS⟩
theorem RRd.lt (h : RRd W p l s) : p < W.heap.size := let ⟨_, _, _, _, h⟩ := h; h.box.lt
theorem RRd.below (h : RRd W p l s) (hb : Below W.heap.size W W') : RRd W' p l s := h.chg (Chg.of_below hb fun _ => False) (fun _ e => e.elim)
theorem RRd.le (h : RRd W p l s) : s.at_ ≤ l.length := let ⟨_, _, _, _, h⟩ := h; h.le
theorem RRx.drewN (h : RRx W p b cap er ea l s) (n : Nat) : RRx (W.drewN n) p b cap er ea l s := ⟨h.box, h.rd, h.cap_, h.le, h.fl⟩
theorem RRx.set_at {at_ k : Nat} (h : RRx W p b cap 0 ea l ⟨at_, false⟩) (hk : k ≤ l.length) : RRx (W.setCell ⟨p, 1, none⟩ (.int .i64 k)) p b cap 0 ea l ⟨k, false⟩ := by
  refine ⟨?_, h.rd.keep fun q hq => ?_, h.cap_, hk, by simp⟩
  · simpa using h.box.set_ 1 (.int .i64 k)
  · have := Below.heap_setCell W ⟨p, 1, none⟩ (.int .i64 k) q.block (by show q.block ≠ p; omega)
    simp [World.cell?, this]
end
def SAft (p : Nat) (l : List UInt8) (s : RSt) (w w' : World) : Prop := RRd w' p l s ∧ Chg (fun k => k = p) w w'
theorem SAft.same {p : Nat} {b : Option Addr} {cap : Nat} {er ea : Int} {l : List UInt8} {s : RSt} {w : World} (h : RRx w p b cap er ea l s) : SAft p l s w w := ⟨⟨_, _, _, _, h⟩, Chg.refl _ _⟩
theorem Chg.set3 (w : World) {p : Nat} (u1 u2 u3 : Value) : Chg (fun k => k = p) w (((w.setCell ⟨p, 2, none⟩ u1).setCell ⟨p, 3, none⟩ u2).setCell ⟨p, 1, none⟩ u3) :=
  (((Chg.refl (fun k => k = p) w).set1 rfl _ _).set1 rfl _ _).set1 rfl _ _

set_option maxRecDepth 100000 in
set_option maxHeartbeats 2000000 in
theorem refNewR (A : Option Addr) (n c : Nat) (l : List UInt8) (w : World) (hA : Rd w w.heap.size A (bv l)) (hn : l.length = n) (hmx : n ≤ 140737488355328) :
    Calls Try.prog 40 #[.slice A n c] w fun e w' => ∃ p, e = .returned (.pointer (some ⟨p, 0, none⟩)) ∧ RRd w' p l ⟨0, false⟩ ∧ w.heap.size ≤ p ∧ Below w.heap.size w w' := by
  obtain ⟨i0, hi0, hz0, hs0, hy0⟩ := info_parts info_u8
  have hb0 : Below w.heap.size w (w.alloc (.cells #[] 5)) := (Below.refl _ _).alloc (Nat.le_refl _) _
  have HA := Lib.hid (And.intro (hA.below hb0) hb0)
  have Hn := Lib.hid hn
  clear hA hn hb0
  go_enter Try.func40, Try.ntmps40
  go_wp2_with (at_builtin
               refine wpList_app _ rfl (.tmp 3) (.tmp 4) _ rfl w.heap.size 5 i0 _ 1 1 Try.underlying26 hi0 hz0 hs0 hy0 rfl (by omega) (.slice (some ⟨w.heap.size, 0, none⟩) 0 0) 0 [] rfl (own_empty _ _ _ _ (Nat.le_refl _)) _ A n c (bv l) rfl (by rw [bv_len, Hn.out, Nat.mul_one]) HA.out.1 (one_bv _) (by unfold maxLen; omega) (by omega) (by simp) ?_
               intro v1 w1 hown hg _
               rw [Nat.zero_add, List.nil_append] at hown
               obtain ⟨b1, cap1, rfl⟩ := ownsRow_slice hown
               have H1 := Lib.hid (And.intro hown hg)
               clear hown hg)
  go_ret
  have hb1 : Below w.heap.size w w1 := HA.out.2.grown H1.out.2 (by simp) (fun k hk => by simp [Value.ownBlock] at hk; omega)
  refine ⟨w1.heap.size, rfl, ⟨b1, cap1, 0, 0, ?_, ?_, ?_, Nat.zero_le _, by simp⟩, hb1.size, hb1.alloc hb1.size _⟩
  · rw [Hn.out]; exact Box.new w1 _ _
  · have h1 := ownsRow_rd H1.out.1
    exact h1.keep fun q hq => World.cell?_alloc_lt _ _ _ hq
  · rw [Hn.out]
    rcases H1.out.1.2 with ⟨hv, h0⟩ | ⟨g, c', cur, hv, _, _, hnc, _⟩
    · omega
    · injection hv with _ _ e2
      omega

set_option maxRecDepth 100000 in
theorem refFail0 (p : Nat) (b : Option Addr) (cap : Nat) (ea : Int) (l : List UInt8) (at_ : Nat) (w : World) (h : RRx w p b cap 0 ea l ⟨at_, false⟩) :
    Calls Try.prog 64 #[.pointer (some ⟨p, 0, none⟩), .int .i64 0] w fun e w' => e = .returned (.tuple #[]) ∧ w = w' := by
  have hc := h.box.cell
  have hl := h.box.lt
  simp only at hc
  clear h
  go_enter Try.func64, Try.ntmps64
  go_wp2
  first
    | (go_end0; exact ⟨rfl, rfl⟩)
    | exact bodyPost_ret (results_none rfl _ _ _) rfl ⟨rfl, rfl⟩
set_option maxRecDepth 100000 in
set_option maxHeartbeats 1000000 in
theorem refFail1 (p : Nat) (b : Option Addr) (cap : Nat) (ea y : Int) (l : List UInt8) (at_ : Nat) (w : World) (h : RRx w p b cap 0 ea l ⟨at_, false⟩) (hy : y ≠ 0) :
    Calls Try.prog 64 #[.pointer (some ⟨p, 0, none⟩), .int .i64 y] w fun e w' => e = .returned (.tuple #[]) ∧ RRx w' p b cap y at_ l ⟨l.length, true⟩ ∧ Chg (fun k => k = p) w w' := by
  have hc := h.box.cell
  have hf := h.box.free
  have hl := h.box.lt
  have hy1 : (y != 0) = true := by simpa using hy
  have H := Lib.hid (And.intro h hy)
  simp only at hc
  clear h hy
  go_enter Try.func64, Try.ntmps64
  go_wp2
  go_end0
  refine ⟨rfl, ⟨?_, H.out.1.rd.keep fun q hq => ?_, H.out.1.cap_, Nat.le_refl _, ?_⟩, ?_⟩
  · have h2 := (((H.out.1.box.set_ 2 (.int .i64 y)).set_ 3 (.int .i64 at_)).set_ 1 (.int .i64 l.length))
    simpa using h2
  · have hb : ∀ W i u, (World.setCell W ⟨p, i, none⟩ u).heap[q.block]? = W.heap[q.block]? := fun W i u => Below.heap_setCell W ⟨p, i, none⟩ u q.block (by show q.block ≠ p; omega)
    simp [World.cell?, hb]
  · have := H.out.2
    simp [this]
  · exact Chg.set3 _ _ _ _

set_option maxRecDepth 100000 in
set_option maxHeartbeats 2000000 in
theorem refUvX (p : Nat) (b : Option Addr) (cap : Nat) (er ea : Int) (l : List UInt8) (s : RSt) (w : World) (h : RRx w p b cap er ea l s) (hmx : l.length ≤ 140737488355328) :
    Calls Try.prog 41 #[.pointer (some ⟨p, 0, none⟩)] w fun e w' => e = .returned (.int .u64 (uvS l s).1) ∧ SAft p l (uvS l s).2 w w' := by
  have hc := h.box.cell
  have hf := h.box.free
  have hl := h.box.lt
  have hle := h.le
  have hcp := h.cap_
  have hfl := h.fl
  obtain ⟨at_, fl⟩ := s
  simp only at hc hle hfl
  cases fl with
  | true =>
    have hne : (er != 0) = true := by simpa using hfl
    have H := Lib.hid h
    clear h hfl
    go_enter Try.func41, Try.ntmps41
    go_wp2
    go_ret
    exact ⟨rfl, SAft.same H.out⟩
  | false =>
    obtain rfl : er = 0 := by
      rcases Classical.em (er = 0) with e | e
      · exact e
      · exact absurd (hfl.2 e) (by simp)
    have H := Lib.hid h
    clear h hfl
    have hsl := fun W => run_tail W 26 Try.underlying26 sizeU8 b l.length cap at_ hle
    have hrd : ∀ n, Rd (w.drewN n) (w.drewN n).heap.size (tailA b cap at_) (bv (l.drop at_)) := fun n => (H.out.rd.tail_ at_ hcp).mono (Nat.le_of_lt hl)
    have Hrd := Lib.hid hrd
    have hlen : (l.drop at_).length = l.length - at_ := by simp
    have Hlen := Lib.hid hlen
    clear hrd hlen
    cases hr : rdE (l.drop at_) with
    | some x =>
      obtain ⟨v, k⟩ := x
      have hb := rdE_bound hr
      rw [Hlen.out] at hb
      obtain ⟨b1, b2, b3⟩ := hb
      have HR := Lib.hid hr
      have HU : Hid (uvS l ⟨at_, false⟩ = (v, ⟨at_ + k, false⟩)) := by unfold uvS; rw [hr]; rfl
      clear hr
      go_enter Try.func41, Try.ntmps41
      go_wp2
      go_quiet ((go_at_call 63; exact Calls.quiet_of (quiet_two (refReadU_some (tailA b cap at_) (l.length - at_) (cap - at_) v k _ _ HR.out (Hrd.out _) Hlen.out (by omega)))))
      go_wp2_with (go_at_call 64; refine (refFail0 p b cap ea l at_ _ (H.out.drewN _)).mono ?_; rintro e w1 ⟨rfl, rfl⟩)
      go_ret
      rw [HU.out]
      have h2 := (H.out.drewN nq).set_at (k := at_ + k) (by omega)
      exact ⟨rfl, ⟨_, _, _, _, by simpa using h2⟩, ((Chg.refl (fun j => j = p) w).drewN nq).set1 rfl _ _⟩
    | none =>
      have HR := Lib.hid hr
      have HU : Hid (uvS l ⟨at_, false⟩ = (0, ⟨l.length, true⟩)) := by unfold uvS; rw [hr]; rfl
      have he := errU_ne _ _ hr
      generalize hx : errU 0 (l.drop at_) = x at he
      have Hx := Lib.hid hx
      have Hne : Hid (x ≠ 0) := by show x ≠ 0; omega
      have hx0 : (x == 0) = false := by simpa using Hne.out
      clear hr hx he
      go_enter Try.func41, Try.ntmps41
      go_wp2
      go_quiet ((go_at_call 63; exact Calls.quiet_of (quiet_two (refReadU_none (tailA b cap at_) (l.length - at_) (cap - at_) _ _ x HR.out Hx.out (Hrd.out _) Hlen.out (by omega)))))
      go_wp2_with (go_at_call 64; refine (refFail1 p b cap ea x l at_ _ (H.out.drewN _) Hne.out).mono ?_; rintro e w1 ⟨rfl, h2, h3⟩; have H2 := Lib.hid (And.intro h2 h3); clear h2 h3)
      go_ret
      rw [HU.out]
      exact ⟨rfl, ⟨_, _, _, _, H2.out.1⟩, ((Chg.refl (fun j => j = p) w).drewN nq).trans H2.out.2⟩
theorem refUv (p : Nat) (l : List UInt8) (s : RSt) (w : World) (h : RRd w p l s) (hmx : l.length ≤ 140737488355328) :
    Calls Try.prog 41 #[.pointer (some ⟨p, 0, none⟩)] w fun e w' => e = .returned (.int .u64 (uvS l s).1) ∧ SAft p l (uvS l s).2 w w' := by
  obtain ⟨b, cap, er, ea, h⟩ := h
  exact refUvX p b cap er ea l s w h hmx
end Go.Proofs.Ytifimeohdgnehaa
