import Derived.Test.YtmhlgbpgdhhfnaaGreatV42
set_option linter.unusedVariables false
set_option linter.unusedSimpArgs false
namespace Go.Proofs.YtmhlgbpgdhhfnaaGreat
open Go.RowKit Go.Maps Sqz

/-! chroniclelaw5.lookPlaced -/
def mixB (b : List UInt8) : List UInt8 := b.take (b.length / 2) ++ (b.drop (b.length / 2)).map (· + 1)
theorem mix_len (b : List UInt8) : (mixB b).length = b.length := by
  unfold mixB
  rw [List.length_append, List.length_take, List.length_map, List.length_drop]
  omega
theorem mix_lo (b : List UInt8) (k : Nat) (hk : k < b.length) (h : k < b.length / 2) : (mixB b)[k]'(by rw [mix_len]; exact hk) = b[k] := by
  unfold mixB
  rw [List.getElem_append_left (by rw [List.length_take]; omega)]
  simp
theorem mix_hi (b : List UInt8) (k : Nat) (hk : k < b.length) (h : ¬ k < b.length / 2) : (mixB b)[k]'(by rw [mix_len]; exact hk) = b[k] + 1 := by
  unfold mixB
  rw [List.getElem_append_right (by rw [List.length_take]; omega)]
  simp only [List.getElem_map, List.getElem_drop, List.length_take]
  congr 2
  omega
theorem u8_up (x : UInt8) : IntKind.u8.wrap ((x.toNat : Int) + 1) = ((x + 1).toNat : Int) := by
  rw [IntKind.wrap_u8, UInt8.toNat_add]
  show _ = (((x.toNat + 1) % 256 : Nat) : Int)
  omega
set_option maxRecDepth 100000 in
set_option maxHeartbeats 16000000 in
theorem lookPl_any (A : Option Addr) (n c : Nat) (b : List UInt8) (w : World) (hA : Rd w w.heap.size A (bv b)) (hn : b.length = n) (hc : n ≤ c) (hmx : n ≤ 1000000000) :
    Calls Tryz.prog 7 #[.slice A n c] w fun e w' => e = .returned (.bool true) ∧ Below w.heap.size w w' := by
  have hmk := fun W => make_u8 n (by omega) W
  have HA := Lib.hid hA
  have HL := Lib.hid hn
  obtain ⟨T, hT⟩ : ∃ T, mixB b = T := ⟨_, rfl⟩
  have hTl : T.length = n := by rw [← hT, mix_len, hn]
  have HT := Lib.hid hT
  have HTL := Lib.hid hTl
  obtain ⟨Z, hZ⟩ : ∃ Z, List.replicate n (0 : UInt8) = Z := ⟨_, rfl⟩
  have HZL : Hid (Z.length = n) := by show _ = _; rw [← hZ]; simp
  rw [hZ] at hmk
  obtain ⟨g, hg⟩ : ∃ g, w.heap.size = g := ⟨_, rfl⟩
  obtain ⟨W1, hW1⟩ : ∃ W1, (w.alloc (.cells (bv Z).toArray 5)).alloc (.cells (bv Z).toArray 5) = W1 := ⟨_, rfl⟩
  have hb1 : Below w.heap.size w W1 := by rw [← hW1]; exact ((Below.refl _ _).alloc (Nat.le_refl _) _).alloc (by simp) _
  have hg1 : GB W1 g Z := by rw [← hW1, ← hg]; exact (Box.new w _ _).alloc _
  have ht1 : GB W1 (g + 1) Z := by
    have := Box.new (w.alloc (.cells (bv Z).toArray 5)) 5 (bv Z).toArray
    rw [World.size_alloc, hg] at this
    rw [← hW1]; exact this
  have H1 := Lib.hid (And.intro hg1 (And.intro ht1 hb1))
  have HG := Lib.hid hg
  clear hg1 ht1 hb1 hA hn hT hTl hZ
  go_enter Tryz.func7, Tryz.ntmps7
  go_upto_region 4 with fail
  go_wp2
  go_loopw [6] (fun v wr => ∃ k : Nat, k ≤ n ∧ v = .int .i64 k ∧ GB wr g (T.take k ++ Z.drop k) ∧ GB wr (g + 1) (T.take k ++ Z.drop k) ∧ Below w.heap.size w wr) (fun v _ => n - (intOf v).toNat)
  case atStart => exact ⟨0, Nat.zero_le _, rfl, by simpa using H1.out.1, by simpa using H1.out.2.1, H1.out.2.2⟩
  case round =>
    obtain ⟨k, hk, rfl, hgb, htb, hbw⟩ := hrel
    by_cases hlt : k < n
    · have g1 : k < b.length := by rw [HL.out]; exact hlt
      have g2 : k < T.length := by rw [HTL.out]; exact hlt
      have hzt : T.length ≤ Z.length := by rw [HTL.out, HZL.out]; exact Nat.le_refl _
      obtain ⟨ad, rfl, had, p0⟩ := (HA.out.below hbw) k (.int .u8 (b[k]'g1).toNat) (by simp [bv, g1])
      have hlk : k < (T.take k ++ Z.drop k).length := by rw [List.length_append, List.length_take, List.length_drop, HTL.out, HZL.out]; omega
      have hgf := Box.free hgb k
      have hgl := Box.lt hgb
      have htf := Box.free htb k
      have htl := Box.lt htb
      have hgc := hgb.cell_ hlk
      have htc := htb.cell_ hlk
      have hne : ad.block ≠ g := by rw [← HG.out]; omega
      have hne1 : ad.block ≠ g + 1 := by rw [← HG.out]; omega
      have HK := Lib.hid (And.intro hgb (And.intro htb hbw))
      clear hgb htb hbw
      have hqq : (n : Int).tdiv 2 = ((n / 2 : Nat) : Int) := by rw [Int.tdiv_eq_ediv_of_nonneg (Int.natCast_nonneg n)]; omega
      have hw2 : IntKind.i64.wrap ((n / 2 : Nat) : Int) = ((n / 2 : Nat) : Int) := IntWalk.i64_in _ (by omega)
      have hp1 : ∀ v, (wr.setCell ⟨g + 1, k, none⟩ v).cell? (ad.add k) = wr.cell? (ad.add k) := fun v => cell_of_block (w := wr) (w' := wr.setCell ⟨g + 1, k, none⟩ v) (p := ad.add k) (Below.heap_setCell wr ⟨g + 1, k, none⟩ v (ad.add k).block (by rw [add_block]; exact hne1))
      have hHG : g = w.heap.size := HG.out.symm
      by_cases hh : k < n / 2
      · have hTk : T[k]'g2 = b[k]'g1 := by
          have := mix_lo b k g1 (by rw [HL.out]; exact hh)
          simp only [HT.out] at this
          exact this
        have HS := Lib.hid (cpy_set T Z k g2 hzt _ hTk)
        have hk2 : ¬ n / 2 ≤ k := by omega
        clear hh
        generalize n / 2 = h2 at hqq hk2 hw2
        clear hTk hzt hHG
        generalize b[k]'g1 = y at p0 HS
        go_wp2
        go_roundw
        case rel =>
          refine ⟨k + 1, by omega, by go_num, ?_, ?_, ?_⟩
          · have h := GB.put (Box.far HK.out.1 (p := ⟨g + 1, k, none⟩) (by show g ≠ g + 1; omega) (.int .u8 y.toNat)) k y
            rw [HS.out] at h
            exact h
          · have h := HK.out.2.1.put k y
            rw [HS.out] at h
            exact Box.far h (p := ⟨g, k, none⟩) (by show g + 1 ≠ g; omega) (.int .u8 y.toNat)
          have hHG := HG.out
          exact (HK.out.2.2.setCell (by show _ ≤ g + 1; omega) _).setCell (by show _ ≤ g; omega) _
        case measure => simp [intOf]; omega
      have hTk : T[k]'g2 = b[k]'g1 + 1 := by
        have := mix_hi b k g1 (by rw [HL.out]; exact hh)
        simp only [HT.out] at this
        exact this
      have HS := Lib.hid (cpy_set T Z k g2 hzt _ hTk)
      have hk2 : n / 2 ≤ k := by omega
      clear hh
      generalize n / 2 = h2 at hqq hk2 hw2
      have hw8 := u8_up (b[k]'g1)
      clear hTk hzt hHG
      generalize b[k]'g1 + 1 = z at HS hw8
      generalize b[k]'g1 = y at p0 hw8
      go_wp2
      go_roundw
      case rel =>
        refine ⟨k + 1, by omega, by go_num, ?_, ?_, ?_⟩
        · first
            | (have h := GB.put (Box.far (Box.far HK.out.1 (p := ⟨g + 1, k, none⟩) (by show g ≠ g + 1; omega) (.int .u8 y.toNat)) (p := ⟨g + 1, k, none⟩) (by show g ≠ g + 1; omega) (.int .u8 z.toNat)) k z
               rw [HS.out] at h
               exact h)
            | (have h := GB.put (Box.far HK.out.1 (p := ⟨g + 1, k, none⟩) (by show g ≠ g + 1; omega) (.int .u8 z.toNat)) k z
               rw [HS.out] at h
               exact h)
        · first
            | (have h := (HK.out.2.1.put k y).put k z
               rw [List.set_set, HS.out] at h
               exact Box.far h (p := ⟨g, k, none⟩) (by show g + 1 ≠ g; omega) (.int .u8 z.toNat))
            | (have h := HK.out.2.1.put k z
               rw [HS.out] at h
               exact Box.far h (p := ⟨g, k, none⟩) (by show g + 1 ≠ g; omega) (.int .u8 z.toNat))
        have hHG := HG.out
        first
          | exact ((HK.out.2.2.setCell (by show _ ≤ g + 1; omega) _).setCell (by show _ ≤ g + 1; omega) _).setCell (by show _ ≤ g; omega) _
          | exact (HK.out.2.2.setCell (by show _ ≤ g + 1; omega) _).setCell (by show _ ≤ g; omega) _
      case measure => simp [intOf]; omega
    obtain rfl : k = n := by omega
    rw [List.take_of_length_le (by rw [HTL.out]; exact Nat.le_refl _), List.drop_eq_nil_of_le (by rw [HZL.out]; exact Nat.le_refl _), List.append_nil] at hgb htb
    clear hk hlt
    have hls : LS w wr g T [(g + 1, 5, (bv T).toArray)] [] := ⟨hbw, hgb, by rw [HG.out]; exact Nat.le_refl _, fun x hx => by rw [List.mem_singleton.1 hx]; exact htb, fun x hx => by rw [List.mem_singleton.1 hx]; show g + 1 ≠ g; omega, fun r hr => absurd hr (by simp), fun r hr => absurd hr (by simp)⟩
    have HLS := Lib.hid hls
    have HGL : Hid (g < wr.heap.size) := Box.lt hgb
    clear hgb htb hbw hls H1
    obtain ⟨a1, a2, a3, a4, a5, a6, a7, L1, e1, e2, hsT⟩ := lookO_shape T
    obtain ⟨c1, c2, c3, c4, c5, c6, c7, L2, f1, f2, hsB⟩ := lookO_shape b
    have HL1 : Hid (L1.length ≤ k) := by
      have := lookO_len T
      rw [hsT, HTL.out] at this
      exact this
    have HL2 : Hid (L2.length ≤ k) := by
      have := lookO_len b
      rw [hsB, HL.out] at this
      exact this
    have HST := Lib.hid hsT
    have HSB := Lib.hid hsB
    clear hsT hsB
    go_wp2_with (first
      | (go_at_call 5
         refine (lookP_any (some ⟨g, 0, none⟩) k k T _ (HLS.out.gb.rd HGL.out) HTL.out (Nat.le_refl _) hmx).mono ?_
         rintro e w5 h5
         obtain ⟨b5, k5, rfl, ho5, hb5⟩ := h5.open_ HST.out
         have hw5 : w5.heap.size = w5.heap.size := rfl
         have HO5 := Lib.hid (And.intro ho5 hb5)
         clear h5 ho5 hb5))
    have hl5 := HLS.out.two (t1 := 24) (t2 := 28) (c1 := #[.int .i64 a1, .int .i64 a2, .int .i64 a3, .int .i64 a4, .int .i64 a5, .int .i64 a6, .bool a7]) (c2 := #[.int .i64 e1, .int .i64 e2]) HO5.out.1 HO5.out.2
    generalize (w5.alloc (.cells #[.int .i64 a1, .int .i64 a2, .int .i64 a3, .int .i64 a4, .int .i64 a5, .int .i64 a6, .bool a7] 24)).alloc (.cells #[.int .i64 e1, .int .i64 e2] 28) = W5 at hl5 ⊢
    generalize w5.heap.size = x5 at hl5 ⊢
    have HL5 := Lib.hid hl5
    clear hl5 HO5 hw5 HLS HGL
    go_loopw [10] (fun v wr => ∃ q : Nat, q ≤ k ∧ v = .int .i64 q ∧ LS w wr g (b.take q ++ T.drop q) [(x5, 24, #[.int .i64 a1, .int .i64 a2, .int .i64 a3, .int .i64 a4, .int .i64 a5, .int .i64 a6, .bool a7]), (x5 + 1, 28, #[.int .i64 e1, .int .i64 e2]), (g + 1, 5, (bv T).toArray)] [(.slice b5 L1.length k5, L1)]) (fun v _ => k - (intOf v).toNat)
    case atStart => exact ⟨0, Nat.zero_le _, rfl, by simpa using HL5.out⟩
    case round =>
      obtain ⟨q, hq, rfl, hls⟩ := hrel
      by_cases hlq : q < k
      · have g1 : q < b.length := by rw [HL.out]; exact hlq
        obtain ⟨ad, rfl, had, p0⟩ := (HA.out.below hls.bel) q (.int .u8 (b[q]'g1).toNat) (by simp [bv, g1])
        have hlk : q < (b.take q ++ T.drop q).length := by rw [List.length_append, List.length_take, List.length_drop, HTL.out, HL.out]; omega
        have hgf := Box.free hls.gb q
        have hgl := Box.lt hls.gb
        have hgc := hls.gb.cell_ hlk
        have HS := Lib.hid (cpy_set b T q g1 (by rw [HTL.out, HL.out]; exact Nat.le_refl _) _ rfl)
        have HK := Lib.hid hls
        clear hls
        generalize b[q]'g1 = y at p0 HS
        go_wp2
        go_roundw
        case rel =>
          have h := HK.out.put q y
          rw [HS.out] at h
          exact ⟨q + 1, by omega, by go_num, h⟩
        case measure => simp [intOf]; omega
      obtain rfl : q = k := by omega
      have hlb : b.take q ++ T.drop q = b := by
        rw [List.take_of_length_le (by rw [HL.out]; exact Nat.le_refl _), List.drop_eq_nil_of_le (by rw [HTL.out]; exact Nat.le_refl _), List.append_nil]
      rw [hlb] at hls
      have HLS := Lib.hid hls
      have HGL : Hid (g < wr.heap.size) := Box.lt hls.gb
      clear hls hlb hlq hq
      go_upto_region 19 with (first
        | (go_at_call 5
           have zz := HGL
           clear zz
           refine (lookP_any (some ⟨g, 0, none⟩) q q b _ (HLS.out.gb.rd HGL.out) HL.out (Nat.le_refl _) hmx).mono ?_
           rintro e w6 h6
           obtain ⟨b6, k6, rfl, ho6, hb6⟩ := h6.open_ HSB.out
           have hl6 := HLS.out.two (t1 := 24) (t2 := 28) (c1 := #[.int .i64 c1, .int .i64 c2, .int .i64 c3, .int .i64 c4, .int .i64 c5, .int .i64 c6, .bool c7]) (c2 := #[.int .i64 f1, .int .i64 f2]) ho6 hb6
           have HL6 := Lib.hid hl6
           clear h6 ho6 hb6 hl6 HGL)
        | (go_at_call 4
           have zz := HL6
           clear zz
           refine (lookQ_any (some ⟨g + 1, 0, none⟩) q q T _ (GB.rd (HL6.out.box (g + 1, 5, (bv T).toArray) (by simp)) (Box.lt (HL6.out.box (g + 1, 5, (bv T).toArray) (by simp)))) HTL.out (Nat.le_refl _) hmx).mono ?_
           rintro e w7 h7
           obtain ⟨b7, k7, rfl, ho7, hb7⟩ := h7.open_ HST.out
           have hl7 := HL6.out.two (t1 := 24) (t2 := 28) (c1 := #[.int .i64 a1, .int .i64 a2, .int .i64 a3, .int .i64 a4, .int .i64 a5, .int .i64 a6, .bool a7]) (c2 := #[.int .i64 e1, .int .i64 e2]) ho7 hb7
           have HL7 := Lib.hid hl7
           clear h7 ho7 hb7 hl7 HL6)
        | (go_at_call 4
           have zz := HL7
           clear zz
           refine (lookQ_any A q c b _ ((HA.out.below HL7.out.bel).mono HL7.out.bel.size) HL.out hc hmx).mono ?_
           rintro e w8 h8
           obtain ⟨b8, k8, rfl, ho8, hb8⟩ := h8.open_ HSB.out
           have hl8 := HL7.out.two (t1 := 24) (t2 := 28) (c1 := #[.int .i64 c1, .int .i64 c2, .int .i64 c3, .int .i64 c4, .int .i64 c5, .int .i64 c6, .bool c7]) (c2 := #[.int .i64 f1, .int .i64 f2]) ho8 hb8
           have HL8 := Lib.hid hl8
           clear h8 ho8 hb8 hl8 HL7))
      have hl8 := HL8.out
      generalize (w8.alloc (.cells #[.int .i64 c1, .int .i64 c2, .int .i64 c3, .int .i64 c4, .int .i64 c5, .int .i64 c6, .bool c7] 24)).alloc (.cells #[.int .i64 f1, .int .i64 f2] 28) = W8 at hl8 ⊢
      generalize w8.heap.size = x8 at hl8 ⊢
      generalize w7.heap.size = x7 at hl8 ⊢
      generalize w6.heap.size = x6 at hl8 ⊢
      have q1 := (hl8.box _ (.head _)).cell
      have q2 := (hl8.box _ (.tail _ (.head _))).cell
      have q3 := (hl8.box _ (.tail _ (.tail _ (.head _)))).cell
      have q4 := (hl8.box _ (.tail _ (.tail _ (.tail _ (.head _))))).cell
      have q5 := (hl8.box _ (.tail _ (.tail _ (.tail _ (.tail _ (.head _)))))).cell
      have q6 := (hl8.box _ (.tail _ (.tail _ (.tail _ (.tail _ (.tail _ (.head _))))))).cell
      have q7 := (hl8.box _ (.tail _ (.tail _ (.tail _ (.tail _ (.tail _ (.tail _ (.head _)))))))).cell
      have q8 := (hl8.box _ (.tail _ (.tail _ (.tail _ (.tail _ (.tail _ (.tail _ (.tail _ (.head _))))))))).cell
      have HF := Lib.hid hl8
      clear hl8 HL8
      dsimp only at q1 q2 q3 q4 q5 q6 q7 q8
      have T1 : Hid (0 = 0) := rfl
      go_wp2_with (first
        | (go_at_call 6
           have zz := T1
           clear zz
           refine (samePl_eq b5 b7 L1.length k5 k7 L1 _ (ownsRow_rd (HF.out.row _ (.tail _ (.tail _ (.tail _ (.head _)))))) (ownsRow_rd (HF.out.row _ (.tail _ (.head _)))) rfl (by have := HL1.out; omega)).mono ?_
           rintro e w10 ⟨rfl, m1, rfl⟩
           clear T1)
        | (go_at_call 6
           refine (samePl_eq b6 b8 L2.length k6 k8 L2 (W8.drewN m1) ((ownsRow_rd (HF.out.row _ (.tail _ (.tail _ (.head _))))).below (below_drewN (Below.refl W8.heap.size W8) m1)) ((ownsRow_rd (HF.out.row _ (.head _))).below (below_drewN (Below.refl W8.heap.size W8) m1)) rfl (by have := HL2.out; omega)).mono ?_
           rintro e w11 ⟨rfl, m2, rfl⟩))
      go_ret
      exact ⟨rfl, below_drewN HF.out.bel _⟩
end Go.Proofs.YtmhlgbpgdhhfnaaGreat
