import Derived.Test.YtmhlgbpgdhhfnaaGreatV07
set_option linter.unusedVariables false
set_option linter.unusedSimpArgs false
namespace Go.Proofs.YtmhlgbpgdhhfnaaGreat
open Go.RowKit Go.Maps Sqz

/-! block -/
theorem blk_step {ts : List Tok} {j : Nat} (h : j < ts.length) : (ts.take (j + 1)).flatMap tokB = (ts.take j).flatMap tokB ++ tokB ts[j] := by
  rw [List.take_succ_eq_append_getElem h, List.flatMap_append]; simp
theorem blk_len (n : Nat) (ts : List Tok) (j : Nat) : (uvar n ++ (ts.take j).flatMap tokB).length ≤ (blockB n ts).length := by
  have : ts.flatMap tokB = (ts.take j).flatMap tokB ++ (ts.drop j).flatMap tokB := by rw [← List.flatMap_append, List.take_append_drop]
  unfold blockB
  rw [this]
  simp only [List.length_append]
  omega
set_option maxRecDepth 100000 in
set_option maxHeartbeats 4000000 in
theorem block_any (n : Nat) (A : Option Addr) (m c : Nat) (ts : List Tok) (w : World) (hT : TRow w w.heap.size A ts) (hm : ts.length = m) (hn : n ≤ 1000000000) (hmx : m ≤ 1000000000) (hsm : ∀ k ∈ ts, k.lit.length ≤ 1000000000 ∧ k.dist ≤ 1000000000 ∧ k.len ≤ 1000000000) (hlen : (blockB n ts).length ≤ 1000000000) :
    Calls Tryz.prog 97 #[.int .i64 n, .slice A m c] w fun e w' =>
      ∃ b cap, e = .returned (.slice b (blockB n ts).length cap) ∧ w'.ownsRow w.heap.size 5 1 (.slice b (blockB n ts).length cap) (blockB n ts).length (bv (blockB n ts)) ∧ Below w.heap.size w w' := by
  have HT := Lib.hid hT
  have Hm := Lib.hid hm
  have Hsm := Lib.hid hsm
  have HBL := fun j => Nat.le_trans (blk_len n ts j) hlen
  have Hlen := Lib.hid hlen
  clear hT hm hsm hlen
  have Hbl := Lib.hid HBL
  clear HBL
  go_enter Tryz.func97, Tryz.ntmps97
  go_wp2_with (first
    | (go_at_call 30
       refine (wNew _).mono ?_
       rintro e w1 ⟨rfl, hw1, hb1⟩
       have S1 := Lib.hid (WS.new (B := w.heap.size) (Nat.le_refl _) hw1 hb1)
       clear hw1 hb1)
    | (go_at_call 102
       refine (wUv (c := 0) S1.out (Nat.le_refl _) (by omega) (n : Int) (by omega) (by omega)).mono ?_
       rintro e w2 ⟨rfl, g2, h1, h2, _⟩
       have S2 := Lib.hid h1
       have L2 := Lib.hid h2
       clear h1 h2 S1))
  go_loopw [15] (fun v wr => ∃ (j : Nat) (g : Option Nat), j ≤ m ∧ v = .int .i64 j ∧ WS w.heap.size w wr 85 w.heap.size g (uvar n ++ (ts.take j).flatMap tokB)) (fun v _ => m - (intOf v).toNat)
  case atStart => exact ⟨0, g2, Nat.zero_le _, rfl, by simpa [uvarI] using S2.out⟩
  case round =>
    obtain ⟨j, g, hj, rfl, hS⟩ := hrel
    have S3 := Lib.hid hS
    clear hS
    by_cases hlt : j < m
    · have hjl : j < ts.length := by rw [Hm.out]; exact hlt
      obtain ⟨ad, lA, lc, rfl, had, p0, p1, p2, hL⟩ := HT.out.at_ hjl
      have hadb : (ad.add (j * 3)).block < w.heap.size := by rw [add_block]; exact had
      replace p0 := (S3.out.below.cell hadb).trans p0
      replace p1 := (S3.out.below.cell (p := ⟨(ad.add (j * 3)).block, (ad.add (j * 3)).off + 1, none⟩) hadb).trans p1
      replace p2 := (S3.out.below.cell (p := ⟨(ad.add (j * 3)).block, (ad.add (j * 3)).off + 2, none⟩) hadb).trans p2
      have hpl := S3.out.wr.lt
      obtain ⟨k1, k2, k3⟩ := Hsm.out _ (List.getElem_mem hjl)
      have HST := Lib.hid (blk_step hjl)
      have hlj := Hbl.out j
      have hlj1 := Hbl.out (j + 1)
      generalize ts[j] = k at *
      obtain ⟨lit, d, l⟩ := k
      simp only at *
      obtain ⟨q, hq⟩ : ∃ q, lit.length = q := ⟨_, rfl⟩
      rw [hq] at p0 k1
      have HL := Lib.hid hL
      have Hq := Lib.hid hq
      have HLJ := Lib.hid (And.intro hlj hlj1)
      have hwl := S3.out.hB
      clear hL hq hlj hlj1
      have hbx := Box.new wr 112 #[.slice lA q lc, .int .i64 d, .int .i64 l]
      have hxc := hbx.cell
      have hxl := hbx.lt
      have HX := Lib.hid hbx
      clear hbx
      have S4 := Lib.hid (S3.out.on ((Below.refl wr.heap.size wr).alloc (Nat.le_refl _) (.cells #[.slice lA q lc, .int .i64 d, .int .i64 l] 112)))
      by_cases h0 : 0 < q
      · have HTB : Hid (tokB ⟨lit, d, l⟩ = uvarI (2 * (q : Int)) ++ lit) := by
          show _ = _
          have hne : ¬ lit = [] := fun e => by have := Hq.out; rw [e] at this; simp at this; omega
          unfold tokB uvarI
          simp only
          rw [if_neg hne, Hq.out, show (2 * (q : Int)).toNat = 2 * q by omega]
        have h0' : (0 : Int) < q := by omega
        go_wp2_with (first
          | (go_at_call 102
             refine (wUv S4.out HLJ.out.1 (by omega) (2 * (q : Int)) (by omega) (by omega)).mono ?_
             rintro e w5 ⟨rfl, g5, h1, h2, h3, h4⟩
             have hx5 := HX.out.chg h3 (fun h => by
               rcases h with h | h
               · omega
               have := S3.out.wr.glt (g := g) (k := wr.heap.size) h.symm; omega)
             have hxc := hx5.cell
             have hxl := hx5.lt
             have HX5 := Lib.hid hx5
             have HG5 : Hid (∀ k, g5 = some k → k ≠ wr.heap.size) := by
               intro k hk e
               subst e
               rcases h4 with h4 | ⟨k', h4, h5⟩
               · have := S3.out.wr.glt (g := g) (k := wr.heap.size) (h4.symm.trans hk); omega
               rw [h4] at hk; cases hk; simp at h5; omega
             have S5 := Lib.hid h1
             have L5 := Lib.hid h2
             clear h1 h2 h3 h4 hx5 S4)
          | (go_at_call 50
             refine (wRaw w.heap.size g5 _ lA q lc lit _ S5.out.wr ((HL.out.below S5.out.below).mono S5.out.below.size) Hq.out (by have := L5.out; omega)).mono ?_
             rintro e w6 ⟨rfl, g6, h1, h2, h3⟩
             have S6 := Lib.hid (S5.out.next h1 h2 h3)
             clear h1 h2 h3 S5))
        go_roundw
        case rel =>
          refine ⟨j + 1, g6, by omega, by go_num, ?_⟩
          rw [HST.out, HTB.out]
          have := S6.out
          simpa [List.append_assoc] using this
        case measure => simp [intOf]; omega
      obtain rfl : q = 0 := by omega
      have HTB : Hid (tokB ⟨lit, d, l⟩ = uvarI (2 * (l : Int) + 1) ++ uvarI (d : Int)) := by
        show _ = _
        have hne : lit = [] := List.eq_nil_of_length_eq_zero Hq.out
        unfold tokB uvarI
        simp only
        rw [if_pos hne, show (2 * (l : Int) + 1).toNat = 2 * l + 1 by omega]
        rfl
      go_wp2_with (first
        | (go_at_call 102
           refine (wUv S4.out HLJ.out.1 (by omega) (2 * (l : Int) + 1) (by omega) (by omega)).mono ?_
           rintro e w5 ⟨rfl, g5, h1, h2, h3, h4⟩
           have hx5 := HX.out.chg h3 (fun h => by
             rcases h with h | h
             · omega
             have := S3.out.wr.glt (g := g) (k := wr.heap.size) h.symm; omega)
           have hxc := hx5.cell
           have hxl := hx5.lt
           have HX5 := Lib.hid hx5
           have HG5 : Hid (∀ k, g5 = some k → k ≠ wr.heap.size) := by
             intro k hk e
             subst e
             rcases h4 with h4 | ⟨k', h4, h5⟩
             · have := S3.out.wr.glt (g := g) (k := wr.heap.size) (h4.symm.trans hk); omega
             rw [h4] at hk; cases hk; simp at h5; omega
           have S5 := Lib.hid h1
           have L5 := Lib.hid h2
           clear h1 h2 h3 h4 hx5 S4)
        | (go_at_call 102
           refine (wUv S5.out L5.out (by omega) (d : Int) (by omega) (by omega)).mono ?_
           rintro e w6 ⟨rfl, g6, h1, h2, _⟩
           have S6 := Lib.hid h1
           clear h1 h2 S5))
      go_roundw
      case rel =>
        refine ⟨j + 1, g6, by omega, by go_num, ?_⟩
        rw [HST.out, HTB.out]
        have := S6.out
        simpa [List.append_assoc] using this
      case measure => simp [intOf]; omega
    obtain rfl : j = m := by omega
    have HE : Hid (uvar n ++ (ts.take j).flatMap tokB = blockB n ts) := by
      show _ = _
      rw [List.take_of_length_le (by rw [Hm.out]; exact Nat.le_refl _)]; rfl
    go_wp2_with (first
      | (go_at_call 35
         refine (wBytesL w.heap.size g _ (blockB n ts) _ _ S3.out.wr HE.out rfl (by have := Hlen.out; omega)).mono ?_
         rintro e w6 ⟨b6, c6, rfl, hown, hb6⟩
         have S6 := Lib.hid (S3.out.on hb6)
         have O6 := Lib.hid hown
         clear hown hb6))
    go_ret
    exact ⟨b6, c6, rfl, ownsRow_le O6.out S3.out.hB, S6.out.below⟩
end Go.Proofs.YtmhlgbpgdhhfnaaGreat
