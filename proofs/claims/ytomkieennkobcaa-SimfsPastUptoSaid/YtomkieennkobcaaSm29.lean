import Derived.Test.YtomkieennkobcaaSm28
/- chroniclelaw3's begun: a new disk that takes a file and a byte. -/
namespace Go.Proofs.Ytomkieennkobcaa
open Go.RowKit Go.Maps

def fstN : ByteArray := ⟨#[102, 105, 114, 115, 116]⟩
def B1 (q : Int) : Dk := ⟨[Fl.new], [], [.inl (fstN, 0)], q, 0, -1, false, 1⟩
def B2 (q : Int) : Dk := ⟨[⟨[], [.inl [7]]⟩], [], [.inl (fstN, 0)], q, 1, -1, false, 2⟩
def Dk.begun (q : Int) : Dk := if q = 0 then B1 q else B2 q
section
variable (q : Int)
theorem bg1 : createE fstN (Dk.fresh q) = 0 ∧ createS fstN (Dk.fresh q) = B1 q := ⟨by rfl, by rfl⟩
theorem bg_at : ¬ atE fstN (B1 q) ≠ 0 := by rw [show atE fstN (B1 q) = 0 from rfl]; decide
theorem bg2 (h : q = 0) : appendE fstN [7] (B1 q) = 33 ∧ appendS fstN [7] (B1 q) = Dk.begun q := by
  have h1 : 0 < ([7] : List UInt8).length ∧ (B1 q).quota - (B1 q).used < ([7] : List UInt8).length := by simp [B1, h]
  refine ⟨?_, ?_⟩
  · unfold appendE; rw [if_neg (bg_at q), if_pos h1]
  · unfold appendS Dk.begun; rw [if_neg (bg_at q), if_pos h1, if_pos h]
theorem bg3 (h : 0 < q) : appendE fstN [7] (B1 q) = 0 ∧ appendS fstN [7] (B1 q) = Dk.begun q := by
  have h1 : ¬ (0 < ([7] : List UInt8).length ∧ (B1 q).quota - (B1 q).used < ([7] : List UInt8).length) := by simp [B1]; omega
  refine ⟨?_, ?_⟩
  · unfold appendE; rw [if_neg (bg_at q), if_neg h1]; rfl
  · unfold appendS Dk.begun; rw [if_neg (bg_at q), if_neg h1, if_neg (show ¬ q = 0 by omega)]; rfl
theorem bg4 (h : q = 0) : readE fstN 0 9 (Dk.begun q) = 0 ∧ readV fstN 0 9 (Dk.begun q) = [] := by
  unfold Dk.begun
  rw [if_pos h]
  exact ⟨by rfl, by rfl⟩
theorem bg5 (h : 0 < q) : readE fstN 0 9 (Dk.begun q) = 0 ∧ readV fstN 0 9 (Dk.begun q) = [7] := by
  unfold Dk.begun
  rw [if_neg (show ¬ q = 0 by omega)]
  exact ⟨by rfl, by rfl⟩
end
set_option maxRecDepth 100000 in
set_option maxHeartbeats 4000000 in
theorem begun_no (q : Int) (w : World) (hq : ¬ (0 ≤ q ∧ q ≤ 1073741824)) : Calls Try.prog 18 #[.int .i64 q] w fun e w' => e = .returned (.tuple #[.pointer none, .bool true]) ∧ Below w.heap.size w w' := by
  have HQ := Lib.hid hq
  by_cases h1 : q < 0
  · clear hq
    go_enter Try.func18, Try.ntmps18
    go_wp2_with (go_at_call 9; refine (new_no q _ HQ.out).mono ?_; rintro e w1 ⟨rfl, hw⟩; have hw1 := hw.symm; subst hw1)
    go_ret2
    exact ⟨rfl, Below.refl _ _⟩
  · have h2 : (1073741824 : Int) < q := by omega
    clear hq
    go_enter Try.func18, Try.ntmps18
    go_wp2_with (go_at_call 9; refine (new_no q _ HQ.out).mono ?_; rintro e w1 ⟨rfl, hw⟩; have hw1 := hw.symm; subst hw1)
    go_ret2
    exact ⟨rfl, Below.refl _ _⟩
theorem then_start {W w w0 w1 : World} {S0 : Nat → Prop} {d N : Nat} {s : Dk} (h : Lv.Then W w0 w1 S0 d s N) (hb : Below w.heap.size w w0) (hS : ∀ b, S0 b → w.heap.size ≤ b) : ∃ S, Lv W w1 S d s N ∧ (∀ b, S b → w.heap.size ≤ b) ∧ Below w.heap.size w w1 := by
  obtain ⟨S', h1, h2, h3⟩ := h
  refine ⟨S', h1, fun b hb2 => ?_, hb.trans (h2.below hb.size hS)⟩
  rcases h3 b hb2 with h4 | h4
  · exact hS b h4
  · exact Nat.le_trans hb.size h4
theorem rd_seven (w : World) : Rd (w.alloc (.cells #[.int .u8 7] 5)) (w.alloc (.cells #[.int .u8 7] 5)).heap.size (some ⟨w.heap.size, 0, none⟩) (bv [7]) := by
  rw [World.size_alloc]
  exact rd_new _ _ _
set_option maxRecDepth 100000 in
set_option maxHeartbeats 8000000 in
theorem begun_any (q : Int) (W w : World) (hw : Below W.heap.size W w) (hq : 0 ≤ q ∧ q ≤ 1073741824) : Calls Try.prog 18 #[.int .i64 q] w fun e w' => ∃ d S, e = .returned (.tuple #[.pointer (some ⟨d, 0, none⟩), .bool true]) ∧ Lv W w' S d (Dk.begun q) 2 ∧ (∀ b, S b → w.heap.size ≤ b) ∧ Below w.heap.size w w' := by
  have HQ := Lib.hid (And.intro hq hw)
  have hq1 : ¬ q < 0 := by omega
  have hq2 : ¬ (1073741824 : Int) < q := by omega
  by_cases h0 : q = 0
  · have H0 := Lib.hid h0
    have hd := Lib.hid (show decide (q = 0) = true from decide_eq_true h0)
    subst h0
    clear hq hw
    go_enter Try.func18, Try.ntmps18
    go_wp2_with (first
      | (go_at_call 9
         refine (new_lv (W := W) 0 _ HQ.out.2 HQ.out.1).mono ?_
         rintro e w0 ⟨d, S0, rfl, h0, hS0, hb0⟩
         have H1 := Lib.hid (And.intro h0 (And.intro hS0 hb0))
         clear h0 hS0 hb0)
      | (go_at_call 10
         refine (lv_create fstN H1.out.1 (by decide) (by decide)).mono ?_
         rintro e w1 ⟨rfl, h1⟩
         rw [(bg1 0).2] at h1
         rw [(bg1 0).1]
         obtain ⟨S1, k1, k2, k3⟩ := then_start h1 H1.out.2.2 H1.out.2.1
         have H2 := Lib.hid (And.intro k1 (And.intro k2 k3))
         clear h1 k1 k2 k3)
      | (go_at_call 11
         refine (lv_append fstN (some ⟨w1.heap.size, 0, none⟩) 1 1 [7] (H2.out.1.next (Below.al w1 (.cells #[.int .u8 7] 5))) (by decide) (by decide) ⟨rd_seven w1, fun ad e _ hS => by injection e with e; subst e; have := H2.out.1.lt _ hS; simp at this⟩ rfl (by decide)).mono ?_
         rintro e w2 ⟨rfl, h1⟩
         rw [(bg2 0 rfl).2] at h1
         rw [(bg2 0 rfl).1]
         obtain ⟨S2, k1, k2, k3⟩ := then_start h1 (H2.out.2.2.trans ((Below.al w1 _).mono H2.out.2.2.size)) H2.out.2.1
         have H3 := Lib.hid (And.intro k1 (And.intro k2 k3))
         clear h1 k1 k2 k3)
      | (go_at_call 17
         refine (lv_read fstN 0 9 H3.out.1 (by decide)).mono ?_
         rintro e w3 ⟨rb, rc, rfl, hr, hb⟩
         rw [(bg4 0 rfl).1, (bg4 0 rfl).2]
         have H4 := Lib.hid (And.intro (H3.out.1.next hb) (H3.out.2.2.trans (hb.mono H3.out.2.2.size)))
         clear hr hb))
    go_ret2
    exact ⟨_, S2, rfl, H4.out.1, H3.out.2.1, H4.out.2⟩
  · have h0' : 0 < q := by omega
    have hd := Lib.hid (show decide (q = 0) = false from decide_eq_false h0)
    have H0 := Lib.hid h0'
    clear hq hw
    go_enter Try.func18, Try.ntmps18
    go_wp2_with (first
      | (go_at_call 9
         refine (new_lv (W := W) q _ HQ.out.2 HQ.out.1).mono ?_
         rintro e w0 ⟨d, S0, rfl, h0, hS0, hb0⟩
         have H1 := Lib.hid (And.intro h0 (And.intro hS0 hb0))
         clear h0 hS0 hb0)
      | (go_at_call 10
         refine (lv_create fstN H1.out.1 (by decide) (by decide)).mono ?_
         rintro e w1 ⟨rfl, h1⟩
         rw [(bg1 q).2] at h1
         rw [(bg1 q).1]
         obtain ⟨S1, k1, k2, k3⟩ := then_start h1 H1.out.2.2 H1.out.2.1
         have H2 := Lib.hid (And.intro k1 (And.intro k2 k3))
         clear h1 k1 k2 k3)
      | (go_at_call 11
         refine (lv_append fstN (some ⟨w1.heap.size, 0, none⟩) 1 1 [7] (H2.out.1.next (Below.al w1 (.cells #[.int .u8 7] 5))) (by decide) (by decide) ⟨rd_seven w1, fun ad e _ hS => by injection e with e; subst e; have := H2.out.1.lt _ hS; simp at this⟩ rfl (by decide)).mono ?_
         rintro e w2 ⟨rfl, h1⟩
         rw [(bg3 q H0.out).2] at h1
         rw [(bg3 q H0.out).1]
         obtain ⟨S2, k1, k2, k3⟩ := then_start h1 (H2.out.2.2.trans ((Below.al w1 _).mono H2.out.2.2.size)) H2.out.2.1
         have H3 := Lib.hid (And.intro k1 (And.intro k2 k3))
         clear h1 k1 k2 k3)
      | (go_at_call 17
         refine (lv_read fstN 0 9 H3.out.1 (by decide)).mono ?_
         rintro e w3 ⟨rb, rc, rfl, hr, hb⟩
         rw [(bg5 q H0.out).1, (bg5 q H0.out).2] at *
         obtain ⟨ad, rfl, hadl, hce⟩ := (row_rd hr) 0 _ rfl
         have hce' : w3.cell? ad = some (.int .u8 7) := by have e : ad.add 0 = ad := by simp [Addr.add]
                                                           rw [e] at hce; exact hce
         have H4 := Lib.hid (And.intro (H3.out.1.next hb) (H3.out.2.2.trans (hb.mono H3.out.2.2.size)))
         clear hr hb hce))
    go_quiet (fail)
    go_wp2
    go_ret2
    exact ⟨_, S2, rfl, H4.out.1.drewN _, H3.out.2.1, below_drewN H4.out.2 _⟩
end Go.Proofs.Ytomkieennkobcaa
