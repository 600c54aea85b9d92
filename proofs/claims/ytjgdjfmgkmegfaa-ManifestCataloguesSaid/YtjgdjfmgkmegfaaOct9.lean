import Derived.Test.YtjgdjfmgkmegfaaOct8
namespace Go.Proofs.Ytjgdjfmgkmegfaa
open Go.RowKit Go.Maps

set_option maxRecDepth 100000 in
set_option maxHeartbeats 2000000 in
theorem octWrap (mark : UInt8) (A : Option Addr) (n c : Nat) (body : List UInt8) (w : World) (hA : Rd w w.heap.size A (bv body)) (hn : body.length = n) (hmx : n ≤ 1000000000) :
    Calls Try.prog 47 #[.int .u8 mark.toNat, .slice A n c] w fun e w' =>
      ∃ b cap, e = .returned (.slice b (n + 9) cap) ∧ w'.ownsRow w.heap.size 5 1 (.slice b (n + 9) cap) (n + 9) (bv (wrapB mark body)) ∧ Below w.heap.size w w' := by
  have hn32 : n < 4294967296 := by omega
  have Hn := Lib.hid hn
  have HA := Lib.hid hA
  have Hfin := Lib.hid (wrapB_app mark body)
  have Hl := Lib.hid (wrapB_len mark body)
  clear hn hA
  go_enter Try.func47, Try.ntmps47
  have tok : True := trivial
  have hbn : ∀ W T g, Wrt W T w.heap.size g ([] ++ be32 n) → Wrt W T w.heap.size g (be32 n) := fun _ _ _ h => h
  have Hbn := Lib.hid hbn
  clear hbn
  go_wp2_with (first
    | (go_at_call 45; have _t := tok; refine (wNew _).mono ?_; rintro e w1 ⟨rfl, hw4, hb4⟩; have R1 := Lib.hid (WS.new (B := w.heap.size) (Nat.le_refl _) hw4 hb4); clear hw4 hb4 tok)
    | (go_at_call 68; refine (wU32 _ _ _ n hn32 _ R1.out.wr (by simp)).mono ?_; rintro e w2 ⟨rfl, g2, h1, h2, h3⟩; have R2 := Lib.hid (R1.out.next h1 h2 h3); clear h1 h2 h3 R1)
    | (go_at_call 45; refine (wNew _).mono ?_; rintro e w4 ⟨rfl, hw4, hb4⟩; have S4 := Lib.hid (WS.new (B := w2.heap.size) (Nat.le_refl _) hw4 hb4); clear hw4 hb4)
    | (go_at_call 69; refine (wByte _ _ _ mark _ S4.out.wr (by simp)).mono ?_; rintro e w5 ⟨rfl, g5, h1, h2, h3⟩; have S5 := Lib.hid (S4.out.next h1 h2 h3); clear h1 h2 h3 S4)
    | (go_at_call 48; refine (wBytesL _ _ _ (be32 n) 4 _ (R2.out.wr.below_lt S5.out.below R2.out.wr.lt (fun k hk => R2.out.wr.glt hk)) rfl rfl (by omega)).mono ?_; rintro e w6 ⟨b6, cap6, rfl, hown, hb6⟩; have O6 := Lib.hid hown; have S6 := Lib.hid (S5.out.on hb6); clear hown hb6 S5)
    | (go_at_call 66; refine (wRaw _ _ _ _ _ _ (be32 n) _ S6.out.wr (ownsRow_rd O6.out) (be32_len n) (by simp)).mono ?_; rintro e w7 ⟨rfl, g7, h1, h2, h3⟩; have S7 := Lib.hid (S6.out.next h1 h2 h3); clear h1 h2 h3 S6)
    | (go_at_call 48; refine (wBytesL _ _ _ (be32 n) 4 _ (R2.out.wr.below_lt S7.out.below R2.out.wr.lt (fun k hk => R2.out.wr.glt hk)) rfl rfl (by omega)).mono ?_; rintro e w8 ⟨b8, cap8, rfl, hown, hb8⟩; have O8 := Lib.hid hown; have S8 := Lib.hid (S7.out.on hb8); clear hown hb8 S7)
    | (go_at_call 71; refine (octSum _ _ _ (be32 n) _ (ownsRow_rd O8.out) (be32_len n) (by unfold maxLen; omega)).mono ?_; rintro e w9 ⟨rfl, hb9⟩; have S9 := Lib.hid (S8.out.on hb9); clear hb9 S8)
    | (go_at_call 70; refine (octExtend (crcE 0 (be32 n)) (crcE_lt _ _) A n c body _ ((HA.out.below (R2.out.below.trans (S9.out.below.mono R2.out.below.size))).mono (Nat.le_trans R2.out.below.size S9.out.below.size)) Hn.out (by unfold maxLen; omega)).mono ?_; rintro e w10 ⟨rfl, hb10⟩; have S10 := Lib.hid (S9.out.on hb10); clear hb10 S9)
    | (go_at_call 68; refine (wU32 _ _ _ (crcE (crcE 0 (be32 n)) body) (crcE_lt _ _) _ S10.out.wr (by simp [be32])).mono ?_; rintro e w11 ⟨rfl, g11, h1, h2, h3⟩; have S11 := Lib.hid (S10.out.next h1 h2 h3); clear h1 h2 h3 S10)
    | (go_at_call 66; refine (wRaw _ _ _ A n c body _ S11.out.wr ((HA.out.below (R2.out.below.trans (S11.out.below.mono R2.out.below.size))).mono (Nat.le_trans R2.out.below.size S11.out.below.size)) Hn.out (by simp [be32]; omega)).mono ?_; rintro e w12 ⟨rfl, g12, h1, h2, h3⟩; have S12 := Lib.hid (S11.out.next h1 h2 h3); clear h1 h2 h3 S11)
    | (go_at_call 48; refine (wBytesL _ _ _ (wrapB mark body) (n + 9) _ S12.out.wr (by rw [← Hfin.out, Hn.out]) (by rw [Hl.out, Hn.out]) (by omega)).mono ?_; rintro e w13 ⟨b13, cap13, rfl, hown, hb13⟩; have S13 := Lib.hid (S12.out.on hb13); have O13 := Lib.hid hown; clear hown hb13))
  go_ret
  exact ⟨b13, cap13, rfl, ownsRow_le O13.out (Nat.le_trans R2.out.below.size S12.out.below.size), R2.out.below.trans (S13.out.below.mono R2.out.below.size)⟩
end Go.Proofs.Ytjgdjfmgkmegfaa
