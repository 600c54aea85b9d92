import Derived.Test.YtifimeohdgnehaaOct7
namespace Go.Proofs.Ytifimeohdgnehaa
open Go.RowKit Go.Maps

/-- A writer at work: all that its calls change lies from B on. -/
structure WS (B : Nat) (w0 w : World) (T p : Nat) (g : Option Nat) (l : List UInt8) : Prop where
  wr : Wrt w T p g l
  hp : B ≤ p
  hg : ∀ k, g = some k → B ≤ k
  below : Below B w0 w
  hB : B ≤ w.heap.size
section
variable {B T p : Nat} {w0 w w' : World} {g g' : Option Nat} {l l' : List UInt8}
theorem WS.next (h : WS B w0 w T p g l) (h1 : Wrt w' T p g' l') (h2 : Chg (fun k => k = p ∨ some k = g) w w') (h3 : g' = g ∨ ∃ k, g' = some k ∧ w.heap.size ≤ k) : WS B w0 w' T p g' l' := by
  refine ⟨h1, h.hp, ?_, h.below.trans (h2.below h.hB ?_), Nat.le_trans h.hB h2.size⟩
  · intro k hk
    rcases h3 with h3 | ⟨k', h3, h4⟩
    · exact h.hg k (h3.symm.trans hk)
    · rw [h3] at hk; cases hk; exact Nat.le_trans h.hB h4
  · rintro k (rfl | hk)
    · exact h.hp
    · exact h.hg k hk.symm
theorem WS.on (h : WS B w0 w T p g l) (hb : Below w.heap.size w w') : WS B w0 w' T p g l :=
  ⟨h.wr.below hb, h.hp, h.hg, h.below.trans (hb.mono h.hB), Nat.le_trans h.hB hb.size⟩
theorem WS.new (hB : B ≤ w.heap.size) (h : Wrt w' T w.heap.size none []) (hb : Below w.heap.size w w') : WS B w w' T w.heap.size none [] :=
  ⟨h, hB, (fun _ e => by cases e), hb.mono hB, Nat.le_trans hB hb.size⟩
theorem Wrt.below_lt (h : Wrt w T p g l) (hb : Below B w w') (hp : p < B) (hg : ∀ k, g = some k → k < B) : Wrt w' T p g l := by
  obtain ⟨v, h1, h2, h3⟩ := h
  exact ⟨v, h1.below hb hp, h2, ownsRow_block h3 fun k hk => hb.block k (hg k (h2.symm.trans hk))⟩
end

theorem be32_mod (n : Nat) : be32 n = [UInt8.ofNat (n / 16777216 % 256), UInt8.ofNat (n / 65536 % 256), UInt8.ofNat (n / 256 % 256), UInt8.ofNat (n % 256)] := by
  have h : ∀ m : Nat, UInt8.ofNat (m % 256) = UInt8.ofNat m := fun m => by apply UInt8.toNat_inj.1; simp
  simp [be32, h]

set_option maxRecDepth 100000 in
set_option maxHeartbeats 1000000 in
theorem refFixed4 (n : Nat) (hn : n < 4294967296) (w : World) : Calls Try.prog 53 #[.int .u64 n, .int .i64 4] w fun e w' =>
    ∃ b cap, e = .returned (.slice b 4 cap) ∧ w'.ownsRow w.heap.size 5 1 (.slice b 4 cap) 4 (bv (be32 n)) ∧ Below w.heap.size w w' := by
  have hmk : ∀ W, (Instr.makeSlice 26 (.int .i64 4) (.int .i64 4)).run Try.prog W = .ok (.slice (some ⟨W.heap.size, 0, none⟩) 4 4) (W.alloc (.cells #[.int .u8 0, .int .u8 0, .int .u8 0, .int .u8 0] 5)) := fun _ => by kernel_rfl
  have Hbe := Lib.hid (bv_be32 n hn)
  go_enter Try.func53, Try.ntmps53
  go_wp2
  refine wp_loop_rounds 5 ?_
  rw [rounds_succ]
  go_wp2
  rw [rounds_succ]
  go_wp2
  rw [rounds_succ]
  go_wp2
  rw [rounds_succ]
  go_wp2
  rw [rounds_succ]
  go_wp2
  go_ret
  refine ⟨_, _, rfl, ?_, (Below.refl _ _).alloc (Nat.le_refl _) _⟩
  have e : bv (be32 n) = (#[.int .u8 ((n : Int) / 256 / 256 / 256 % 256), .int .u8 ((n : Int) / 256 / 256 % 256), .int .u8 ((n : Int) / 256 % 256), .int .u8 ((n : Int) % 256)] : Array Value).toList := by
    rw [Hbe.out]
    have e1 : (n : Int) / 256 / 256 / 256 % 256 = n / 16777216 := by omega
    have e2 : (n : Int) / 256 / 256 % 256 = n / 65536 % 256 := by omega
    rw [e1, e2]
  rw [e]
  exact World.ownsRow_lit _ _ 4 (Nat.le_refl _) (by unfold maxLen; omega) rfl

set_option maxRecDepth 100000 in
theorem rwU32 (p : Nat) (g : Option Nat) (l : List UInt8) (n : Nat) (hn : n < 4294967296) (w : World) (h : Wrt w 81 p g l) (hlen : l.length ≤ 1000000000000) :
    Calls Try.prog 57 #[.pointer (some ⟨p, 0, none⟩), .int .u32 n] w fun e w' =>
      e = .returned (.tuple #[]) ∧ ∃ g', Wrt w' 81 p g' (l ++ be32 n) ∧ Chg (fun k => k = p ∨ some k = g) w w' ∧ (g' = g ∨ ∃ k, g' = some k ∧ w.heap.size ≤ k) := by
  have H := Lib.hid h
  clear h
  go_enter Try.func57, Try.ntmps57
  go_wp2_with (first
    | (go_at_call 53; refine (refFixed4 n hn _).mono ?_; rintro e w1 ⟨b, cap, rfl, hown, hb⟩; have H1 := Lib.hid (And.intro hown hb); clear hown hb)
    | (go_at_call 51; refine (rwRaw p g l _ 4 _ (be32 n) _ (H.out.below H1.out.2) (ownsRow_rd H1.out.1) rfl (by omega)).mono ?_; rintro e w2 ⟨rfl, g', h1, h2, h3⟩))
  go_end0
  refine ⟨rfl, g', h1, (Chg.of_below H1.out.2 _).trans h2, ?_⟩
  rcases h3 with h3 | ⟨k, h3, h4⟩
  · exact .inl h3
  · exact .inr ⟨k, h3, Nat.le_trans H1.out.2.size h4⟩

theorem be32_len (n : Nat) : (be32 n).length = 4 := rfl
/-- The bytes of a body, wrapped. -/
def wrapB (mark : UInt8) (body : List UInt8) : List UInt8 := mark :: (be32 body.length ++ (be32 (crcE (crcE 0 (be32 body.length)) body) ++ body))
theorem wrapB_len (mark : UInt8) (body : List UInt8) : (wrapB mark body).length = body.length + 9 := by simp [wrapB, be32]
theorem crcE_lt (s : Nat) (l : List UInt8) : crcE s l < 4294967296 := by unfold crcE; omega
theorem wrapB_app (mark : UInt8) (body : List UInt8) : [] ++ [mark] ++ be32 body.length ++ be32 (crcE (crcE 0 (be32 body.length)) body) ++ body = wrapB mark body := by simp [wrapB]
theorem wBytesL (p : Nat) (g : Option Nat) (l bs : List UInt8) (m : Nat) (w : World) (h : Wrt w 75 p g l) (hb : l = bs) (hm : bs.length = m) (hlen : m ≤ 1000000000000) :
    Calls Try.prog 26 #[.pointer (some ⟨p, 0, none⟩)] w fun e w' =>
      ∃ b cap, e = .returned (.slice b m cap) ∧ w'.ownsRow w.heap.size 5 1 (.slice b m cap) m (bv bs) ∧ Below w.heap.size w w' := by
  subst hb hm
  exact wBytes p g l w h hlen
theorem rwBytesL (p : Nat) (g : Option Nat) (l bs : List UInt8) (m : Nat) (w : World) (h : Wrt w 81 p g l) (hb : l = bs) (hm : bs.length = m) (hlen : m ≤ 1000000000000) :
    Calls Try.prog 33 #[.pointer (some ⟨p, 0, none⟩)] w fun e w' =>
      ∃ b cap, e = .returned (.slice b m cap) ∧ w'.ownsRow w.heap.size 5 1 (.slice b m cap) m (bv bs) ∧ Below w.heap.size w w' := by
  subst hb hm
  exact rwBytes p g l w h hlen

set_option maxRecDepth 100000 in
set_option maxHeartbeats 2000000 in
theorem refWrap (mark : UInt8) (A : Option Addr) (n c : Nat) (body : List UInt8) (w : World) (hA : Rd w w.heap.size A (bv body)) (hn : body.length = n) (hmx : n ≤ 1000000000) :
    Calls Try.prog 32 #[.int .u8 mark.toNat, .slice A n c] w fun e w' =>
      ∃ b cap, e = .returned (.slice b (n + 9) cap) ∧ w'.ownsRow w.heap.size 5 1 (.slice b (n + 9) cap) (n + 9) (bv (wrapB mark body)) ∧ Below w.heap.size w w' := by
  have hn32 : n < 4294967296 := by omega
  have hn64 : n < 18446744073709551616 := by omega
  have Hn := Lib.hid hn
  have HA := Lib.hid hA
  have Hfin := Lib.hid (wrapB_app mark body)
  have Hl := Lib.hid (wrapB_len mark body)
  clear hn hA
  go_enter Try.func32, Try.ntmps32
  go_wp2_with (first
    | (go_at_call 53; refine (refFixed4 n hn32 _).mono ?_; rintro e w1 ⟨b1, cap1, rfl, hown, hb⟩; have H1 := Lib.hid (And.intro hown hb); clear hown hb)
    | (go_at_call 55; refine (refSum _ _ _ (be32 n) _ (ownsRow_rd H1.out.1) (be32_len n) (by unfold maxLen; omega)).mono ?_; rintro e w2 ⟨rfl, rfl⟩)
    | (go_at_call 54; refine (refExtend (crcE 0 (be32 n)) (crcE_lt _ _) A n c body _ ((HA.out.below H1.out.2).mono H1.out.2.size) Hn.out (by unfold maxLen; omega)).mono ?_; rintro e w3 ⟨rfl, rfl⟩)
    | (go_at_call 29; refine (rwNew _).mono ?_; rintro e w4 ⟨rfl, hw4, hb4⟩; have S4 := Lib.hid (WS.new (B := w1.heap.size) (Nat.le_refl _) hw4 hb4); clear hw4 hb4)
    | (go_at_call 56; refine (rwByte _ _ _ mark _ S4.out.wr (by simp)).mono ?_; rintro e w5 ⟨rfl, g5, h1, h2, h3⟩; have S5 := Lib.hid (S4.out.next h1 h2 h3); clear h1 h2 h3 S4)
    | (go_at_call 51; refine (rwRaw _ _ _ _ _ _ (be32 n) _ S5.out.wr (((ownsRow_rd H1.out.1).below S5.out.below).mono S5.out.below.size) (be32_len n) (by simp)).mono ?_; rintro e w6 ⟨rfl, g6, h1, h2, h3⟩; have S6 := Lib.hid (S5.out.next h1 h2 h3); clear h1 h2 h3 S5)
    | (go_at_call 57; refine (rwU32 _ _ _ (crcE (crcE 0 (be32 n)) body) (crcE_lt _ _) _ S6.out.wr (by simp [be32])).mono ?_; rintro e w7 ⟨rfl, g7, h1, h2, h3⟩; have S7 := Lib.hid (S6.out.next h1 h2 h3); clear h1 h2 h3 S6)
    | (go_at_call 51; refine (rwRaw _ _ _ A n c body _ S7.out.wr ((HA.out.below (H1.out.2.trans (S7.out.below.mono H1.out.2.size))).mono (Nat.le_trans H1.out.2.size S7.out.below.size)) Hn.out (by simp [be32]; omega)).mono ?_; rintro e w8 ⟨rfl, g8, h1, h2, h3⟩; have S8 := Lib.hid (S7.out.next h1 h2 h3); clear h1 h2 h3 S7)
    | (go_at_call 33; refine (rwBytesL _ _ _ (wrapB mark body) (n + 9) _ S8.out.wr (by rw [← Hfin.out, Hn.out]) (by rw [Hl.out, Hn.out]) (by omega)).mono ?_; rintro e w9 ⟨b9, cap9, rfl, hown, hb9⟩; have S9 := Lib.hid (S8.out.on hb9); have O9 := Lib.hid hown; clear hown hb9))
  go_ret
  exact ⟨b9, cap9, rfl, ownsRow_le O9.out (Nat.le_trans H1.out.2.size (Nat.le_trans S8.out.below.size (Nat.le_refl _))), H1.out.2.trans (S9.out.below.mono H1.out.2.size)⟩

end Go.Proofs.Ytifimeohdgnehaa
