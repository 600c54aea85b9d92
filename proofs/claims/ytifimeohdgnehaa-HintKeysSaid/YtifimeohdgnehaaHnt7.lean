import Derived.Test.YtifimeohdgnehaaHnt6
namespace Go.Proofs.Ytifimeohdgnehaa
open Go.RowKit Go.Maps

theorem head_app (mark : UInt8) (n : Nat) : [] ++ [mark] ++ be32 n = mark :: be32 n := rfl
theorem rd_tail {w : World} {B g : Nat} {x : Value} {xs : List Value} (h : Rd w B (some ⟨g, 0, none⟩) (x :: xs)) : Rd w B (some ⟨g, 1, none⟩) xs := by
  intro j u hj
  obtain ⟨ad, e, hb, hc⟩ := h (j + 1) u (by simpa using hj)
  cases e
  refine ⟨_, rfl, hb, ?_⟩
  have e1 : (⟨g, 1, none⟩ : Addr) = (⟨g, 0, none⟩ : Addr).add 1 := rfl
  rw [e1, add_add', Nat.add_comm]; exact hc

set_option maxRecDepth 100000 in
set_option maxHeartbeats 8000000 in
theorem octEncodeH (seg size : Int) (A : Option Addr) (c : Nat) (l : List HE) (w : World) (hA : Rd w w.heap.size A (l.flatMap six)) (hmx : l.length ≤ 140737488355328) :
    Calls Try.prog 8 #[hV seg size (.slice A l.length c)] w fun e w' =>
      ∃ b cap, e = .returned (.tuple #[.slice b (encH seg size l).length cap, .int .i64 (errH seg size l)]) ∧
        w'.ownsRow w.heap.size 5 1 (.slice b (encH seg size l).length cap) (encH seg size l).length (bv (encH seg size l)) ∧ Below w.heap.size w w' := by
  have hb0 : Below w.heap.size w (w.alloc (.cells #[.int .i64 seg, .int .i64 size, .slice A l.length c] 24)) := (Below.refl _ _).alloc (Nat.le_refl _) _
  have hX0 := Box.new w 24 #[.int .i64 seg, .int .i64 size, .slice A l.length c]
  have Hb0 := Lib.hid hb0
  have HX0 := Lib.hid hX0
  have HA := Lib.hid hA
  clear hb0 hX0 hA
  by_cases hr : HintR seg size l
  case neg =>
    have HE := Lib.hid (show errH seg size l = 60 from if_neg hr)
    have HL := Lib.hid (show encH seg size l = [] from if_neg hr)
    have Hr := Lib.hid hr
    clear hr
    unfold hV
    go_enter Try.func8, Try.ntmps8
    go_wp2_with (go_at_call 19; refine (octRight seg size A c l _ ((HA.out.below Hb0.out).mono (by simp)) hmx).mono ?_; rintro e w1 ⟨he, hb1⟩; have he2 := he.f Hr.out; clear he; subst he2; have Hb1 := Lib.hid hb1; clear hb1)
    go_ret2
    rw [HL.out, HE.out]
    exact ⟨none, 0, rfl, nil_own _ _ _ _, Hb0.out.trans (Hb1.out.mono (by simp))⟩
  have HE := Lib.hid (show errH seg size l = 0 from if_pos hr)
  have HL := Lib.hid (show encH seg size l = wrapB 177 (bodyH seg size l) from if_pos hr)
  have Hr := Lib.hid hr
  clear hr
  generalize hbo : bodyH seg size l = body at HL
  have Hbo := Lib.hid hbo
  generalize hno : body.length = n
  have Hn := Lib.hid hno
  have Hfin := Lib.hid (wrapB_app 177 body)
  have Hl := Lib.hid (wrapB_len 177 body)
  have Hh := Lib.hid (head_app 177 n)
  clear hbo hno
  unfold hV
  go_enter Try.func8, Try.ntmps8
  go_wp2_with (first
    | (go_at_call 19; refine (octRight seg size A c l _ ((HA.out.below Hb0.out).mono (by simp)) hmx).mono ?_; rintro e w1 ⟨he, hb1⟩; have he2 := he.t Hr.out; clear he; subst he2; have HX := Lib.hid (HX0.out.below hb1 (by simp)); have Hb1 := Lib.hid (Hb0.out.trans (hb1.mono (by simp))); have hsz1 : w.heap.size < w1.heap.size := by (have := hb1.size; simp at this; omega)
       have hcx1 := HX.out.cell
       clear hb1)
    | (go_at_call 20; refine (octBodyH seg size A c l _ ((HA.out.below Hb1.out).mono (by omega)) Hr.out).mono ?_; rintro e w2 ⟨b2, cap2, rfl, hlen2, hown, hb2⟩; rw [Hbo.out, Hn.out] at hown; rw [Hbo.out, Hn.out] at hlen2; rw [Hbo.out, Hn.out]; have hn32 : n < 4294967296 := by omega
       have O2 := Lib.hid hown; have Hb2 := Lib.hid (Hb1.out.trans (hb2.mono (by omega))); have hsz2 : w.heap.size < w2.heap.size := by (have := hb2.size; omega)
       clear hown hb2)
    | (go_at_call 21; refine (wNew _).mono ?_; rintro e w4 ⟨rfl, hw4, hb4⟩; have S4 := Lib.hid (WS.new (B := w2.heap.size) (Nat.le_refl _) hw4 hb4); clear hw4 hb4)
    | (go_at_call 22; refine (wByte _ _ _ 177 _ S4.out.wr (by simp)).mono ?_; rintro e w5 ⟨rfl, g5, h1, h2, h3⟩; have S5 := Lib.hid (S4.out.next h1 h2 h3); clear h1 h2 h3 S4)
    | (go_at_call 23; refine (wU32 _ _ _ n hn32 _ S5.out.wr (by simp)).mono ?_; rintro e w6 ⟨rfl, g6, h1, h2, h3⟩; have S6 := Lib.hid (S5.out.next h1 h2 h3); clear h1 h2 h3 S5)
    | (go_at_call 26; refine (wBytesL _ _ _ (177 :: be32 n) 5 _ S6.out.wr Hh.out rfl (by omega)).mono ?_; rintro e w7 ⟨b7, cap7, rfl, hown, hb7⟩; obtain ⟨g7, cap7', hv7, hc7a, hc7b, hO7⟩ := Own.of_row hown (by omega); injection hv7 with hv7 _ hv7b; subst hv7 hv7b; have S7 := Lib.hid (S6.out.on hb7); have R7 := Lib.hid (rd_tail (ownsRow_rd hown)); clear hown hb7 S6 hO7; unfold maxLen at hc7b)
    | (go_at_call 25; refine (octSum _ _ _ (be32 n) _ R7.out (be32_len n) (by unfold maxLen; omega)).mono ?_; rintro e w8 ⟨rfl, hb8⟩; have S8 := Lib.hid (S7.out.on hb8); clear hb8 S7)
    | (go_at_call 24; refine (octExtend (crcE 0 (be32 n)) (crcE_lt _ _) b2 n cap2 body _ (((ownsRow_rd O2.out).below S8.out.below).mono S8.out.below.size) Hn.out (by unfold maxLen; omega)).mono ?_; rintro e w10 ⟨rfl, hb10⟩; have S10 := Lib.hid (S8.out.on hb10); clear hb10 S8)
    | (go_at_call 23; refine (wU32 _ _ _ (crcE (crcE 0 (be32 n)) body) (crcE_lt _ _) _ S10.out.wr (by simp [be32])).mono ?_; rintro e w11 ⟨rfl, g11, h1, h2, h3⟩; have S11 := Lib.hid (S10.out.next h1 h2 h3); clear h1 h2 h3 S10)
    | (go_at_call 27; refine (wRaw _ _ _ b2 n cap2 body _ S11.out.wr (((ownsRow_rd O2.out).below S11.out.below).mono S11.out.below.size) Hn.out (by simp [be32]; omega)).mono ?_; rintro e w12 ⟨rfl, g12, h1, h2, h3⟩; have S12 := Lib.hid (S11.out.next h1 h2 h3); clear h1 h2 h3 S11)
    | (go_at_call 26; refine (wBytesL _ _ _ (wrapB 177 body) (n + 9) _ S12.out.wr (by rw [← Hfin.out, Hn.out]) (by rw [Hl.out, Hn.out]) (by omega)).mono ?_; rintro e w13 ⟨b13, cap13, rfl, hown, hb13⟩; have S13 := Lib.hid (S12.out.on hb13); have O13 := Lib.hid hown; clear hown hb13))
  go_ret2
  rw [HL.out, HE.out, wrapB_len, Hn.out]
  exact ⟨b13, cap13, rfl, ownsRow_le O13.out (Nat.le_trans Hb2.out.size S12.out.below.size), Hb2.out.trans (S13.out.below.mono Hb2.out.size)⟩
end Go.Proofs.Ytifimeohdgnehaa
