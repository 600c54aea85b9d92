import Derived.Test.YtmhlgbpgdhhfnaaGreatV30
set_option linter.unusedVariables false
set_option linter.unusedSimpArgs false
namespace Go.Proofs.YtmhlgbpgdhhfnaaGreat
open Go.RowKit Go.Maps Sqz

/-! chronicleref4.body -/
theorem rwByteN (p F : Nat) (g : Option Nat) (v : Int) (w : World) (hF : F < 256) (hv : v = F) (h : Wrt w 115 p g []) :
    Calls Tryz.prog 61 #[.pointer (some ⟨p, 0, none⟩), .int .u8 v] w fun e w' =>
      e = .returned (.tuple #[]) ∧ ∃ g', Wrt w' 115 p g' [UInt8.ofNat F] ∧ Chg (fun k => k = p ∨ some k = g) w w' ∧ (g' = g ∨ ∃ k, g' = some k ∧ w.heap.size ≤ k) := by
  have := rwByte p g [] (UInt8.ofNat F) w h (by simp)
  have e : ((UInt8.ofNat F).toNat : Int) = v := by rw [hv]; simp; omega
  rw [e] at this
  exact this
theorem textB_L (key : List UInt8) : textB ⟨key.toArray⟩ = textL key := by unfold textB textL; simp; rfl
set_option maxRecDepth 100000 in
set_option maxHeartbeats 8000000 in
theorem bodyQ_any (kind off time pid seq : Int) (key val : List UInt8) (n : Nat) (w : World) (hk : chkR ⟨kind, off, time, pid, seq, key, val⟩ = 0) (hn : val.length = n) :
    Calls Tryz.prog 45 #[.agg #[.int .i64 kind, .int .i64 off, .int .i64 time, .int .i64 pid, .int .i64 seq, .string ⟨key.toArray⟩, .string ⟨val.toArray⟩]] w fun e w' => ∃ b c, e = .returned (.slice b (bodyR ⟨kind, off, time, pid, seq, key, val⟩).length c) ∧ w'.ownsRow w.heap.size 5 1 (.slice b (bodyR ⟨kind, off, time, pid, seq, key, val⟩).length c) (bodyR ⟨kind, off, time, pid, seq, key, val⟩).length (bv (bodyR ⟨kind, off, time, pid, seq, key, val⟩)) ∧ Below w.heap.size w w' := by
  obtain ⟨k1, ⟨k2, k2'⟩, ⟨k3, k3'⟩, ⟨k4, k4'⟩, k5, k6, k7, k8, k9, k10⟩ := chk_ok.1 hk
  simp only at k1 k2 k2' k3 k3' k4 k4' k5 k6 k7 k8 k9 k10
  have hseq : 0 ≤ seq ∧ seq < 1099511627776 := by
    rcases (show pid = 0 ∨ 0 < pid by omega) with h | h
    · rw [k5 h]; omega
    have := k6 h
    unfold numOk at this
    omega
  obtain ⟨hq1, hq2⟩ := hseq
  rw [hn] at k9
  have hcv := fun W => conv_bytes W val n hn
  have HRB0 : Hid (Rd (Lib.bytesWorld (w.alloc (.cells #[.int .i64 kind, .int .i64 off, .int .i64 time, .int .i64 pid, .int .i64 seq, .string ⟨key.toArray⟩, .string ⟨val.toArray⟩] 33)) 5 ⟨val.toArray⟩) (Lib.bytesWorld (w.alloc (.cells #[.int .i64 kind, .int .i64 off, .int .i64 time, .int .i64 pid, .int .i64 seq, .string ⟨key.toArray⟩, .string ⟨val.toArray⟩] 33)) 5 ⟨val.toArray⟩).heap.size (some ⟨w.heap.size + 1, 0, none⟩) (bv val)) := by
    show Rd _ _ _ _
    have := bytesWorld_rd (w.alloc (.cells #[.int .i64 kind, .int .i64 off, .int .i64 time, .int .i64 pid, .int .i64 seq, .string ⟨key.toArray⟩, .string ⟨val.toArray⟩] 33)) 5 ⟨val.toArray⟩
    simpa using this
  have HW0 : Hid (Below w.heap.size w (Lib.bytesWorld (w.alloc (.cells #[.int .i64 kind, .int .i64 off, .int .i64 time, .int .i64 pid, .int .i64 seq, .string ⟨key.toArray⟩, .string ⟨val.toArray⟩] 33)) 5 ⟨val.toArray⟩)) := ((Below.refl _ _).alloc (Nat.le_refl _) _).trans ((bytesWorld_below (w.alloc (.cells #[.int .i64 kind, .int .i64 off, .int .i64 time, .int .i64 pid, .int .i64 seq, .string ⟨key.toArray⟩, .string ⟨val.toArray⟩] 33)) 5 ⟨val.toArray⟩).mono (by simp))
  have HX0 : Hid (Box (Lib.bytesWorld (w.alloc (.cells #[.int .i64 kind, .int .i64 off, .int .i64 time, .int .i64 pid, .int .i64 seq, .string ⟨key.toArray⟩, .string ⟨val.toArray⟩] 33)) 5 ⟨val.toArray⟩) w.heap.size 33 #[.int .i64 kind, .int .i64 off, .int .i64 time, .int .i64 pid, .int .i64 seq, .string ⟨key.toArray⟩, .string ⟨val.toArray⟩]) := (Box.new w _ _).below (bytesWorld_below (w.alloc (.cells #[.int .i64 kind, .int .i64 off, .int .i64 time, .int .i64 pid, .int .i64 seq, .string ⟨key.toArray⟩, .string ⟨val.toArray⟩] 33)) 5 ⟨val.toArray⟩) (by simp)
  have Hn := Lib.hid hn
  have hen := enc_le val (by omega)
  have Hk : Hid ((⟨key.toArray⟩ : ByteArray).size ≤ 64) := k8
  clear hn k10 k5 k6 hk
  go_enter Tryz.func45, Tryz.ntmps45
  go_upto_region 3 with fail
  generalize Lib.bytesWorld _ _ _ = W0 at HRB0 HW0 HX0 ⊢
  generalize grownCap _ _ _ _ = cap0
  have hxc := HX0.out.cell
  have hxl := HX0.out.lt
  clear hcv
  rcases k1 with rfl | rfl
  · by_cases hs : (enc val).length < n
    · have HS : Hid (small val = true) := by show _ = _; unfold small; rw [Hn.out]; exact decide_eq_true hs
      have hs1 : ((enc val).length : Int) < n := by omega
      by_cases hp : 0 < pid
      · have HBO : Hid ([UInt8.ofNat 6] ++ uvarI off ++ uvarI time ++ uvarI pid ++ uvarI seq ++ textB ⟨key.toArray⟩ ++ enc val = bodyR ⟨1, off, time, pid, seq, key, val⟩) := by
          show _ = _
          unfold bodyR flagsR shortV
          simp only [HS.out, textB_L, uvarI, hp]
          simp
        have HBL : Hid (([UInt8.ofNat 6] ++ uvarI off ++ uvarI time ++ uvarI pid ++ uvarI seq ++ textB ⟨key.toArray⟩ ++ enc val).length ≤ 1000000000000) := by
          show _ ≤ _
          have u1 := uvar_le off.toNat
          have u2 := uvar_le time.toNat
          have u3 := uvar_le pid.toNat
          have u4 := uvar_le seq.toNat
          have u5 := uvar_le key.length
          have hv := Hn.out
          simp only [List.length_append, textB_L, textL, uvarI, List.length_singleton]
          omega
        clear hs
        go_wp2_with (first
          | (go_at_call 57
             refine (encodeR_any _ n cap0 val _ HRB0.out Hn.out (by omega)).mono ?_
             rintro e w1 ⟨b1, c1, rfl, ho1, hb1⟩
             have hx1 := Lib.hid (HX0.out.below hb1 HX0.out.lt)
             have HX1L : Hid (w.heap.size < w1.heap.size) := hx1.out.lt
             have hxc := hx1.out.cell
             have hxl := hx1.out.lt
             have H1 := Lib.hid (And.intro (ownsRow_rd ho1) hb1)
             have T1 : True := trivial
             clear ho1 hb1)
          | (go_at_call 60
             refine (rwNew _).mono ?_
             rintro e w2 ⟨rfl, hw2, hb2⟩
             have S2 := Lib.hid (WS.new (B := w1.heap.size) (Nat.le_refl _) hw2 hb2)
             clear hw2 hb2
             have hx := hx1.out.below S2.out.below HX1L.out
             have hxc := hx.cell
             have hxl := hx.lt
             clear hx)
          | (go_at_call 61
             refine (rwByteN w1.heap.size 6 none _ _ (by omega) (by simp) S2.out.wr).mono ?_
             rintro e w3 ⟨rfl, g3, h1, h2, h3⟩
             have S3 := Lib.hid (S2.out.next h1 h2 h3)
             have L3 : Hid (([UInt8.ofNat 6] : List UInt8).length ≤ 1) := Nat.le_refl _
             clear h1 h2 h3
             have hx := hx1.out.below S3.out.below HX1L.out
             have hxc := hx.cell
             have hxl := hx.lt
             clear hx)
          | (go_at_call 65
             have zz := T1
             clear zz
             refine (rwUv S3.out L3.out (by omega) off (by omega) (by omega)).mono ?_
             rintro e w4 ⟨rfl, g4, h1, h2, _⟩
             have S4 := Lib.hid h1
             have L4 := Lib.hid h2
             have T2 : True := trivial
             clear h1 h2 T1
             have hx := hx1.out.below S4.out.below HX1L.out
             have hxc := hx.cell
             have hxl := hx.lt
             clear hx)
          | (go_at_call 65
             have zz := T2
             clear zz
             refine (rwUv S4.out L4.out (by omega) time (by omega) (by omega)).mono ?_
             rintro e w5 ⟨rfl, g5, h1, h2, _⟩
             have S5 := Lib.hid h1
             have L5 := Lib.hid h2
             have T3 : True := trivial
             clear h1 h2 T2
             have hx := hx1.out.below S5.out.below HX1L.out
             have hxc := hx.cell
             have hxl := hx.lt
             clear hx)
          | (go_at_call 65
             have zz := T3
             clear zz
             refine (rwUv S5.out L5.out (by omega) pid (by omega) (by omega)).mono ?_
             rintro e w6 ⟨rfl, g6, h1, h2, _⟩
             have S6 := Lib.hid h1
             have L6 := Lib.hid h2
             have T4 : True := trivial
             clear h1 h2 T3
             have hx := hx1.out.below S6.out.below HX1L.out
             have hxc := hx.cell
             have hxl := hx.lt
             clear hx)
          | (go_at_call 65
             have zz := T4
             clear zz
             refine (rwUv S6.out L6.out (by omega) seq (by omega) (by omega)).mono ?_
             rintro e w7 ⟨rfl, g7, h1, h2, _⟩
             have S7 := Lib.hid h1
             have L7 := Lib.hid h2
             have T5 : True := trivial
             clear h1 h2 T4
             have hx := hx1.out.below S7.out.below HX1L.out
             have hxc := hx.cell
             have hxl := hx.lt
             clear hx)
          | (go_at_call 66
             refine (rwTx S7.out L7.out (by omega) ⟨key.toArray⟩ 64 Hk.out (by omega)).mono ?_
             rintro e w8 ⟨rfl, g8, h1, h2, _⟩
             have S8 := Lib.hid h1
             have L8 := Lib.hid h2
             clear h1 h2
             have hx := hx1.out.below S8.out.below HX1L.out
             have hxc := hx.cell
             have hxl := hx.lt
             clear hx)
          | (go_at_call 62
             refine (rwRaw w1.heap.size _ _ _ _ _ (enc val) _ S8.out.wr ((H1.out.1.below S8.out.below).mono S8.out.below.size) rfl (by have := L8.out; omega)).mono ?_
             rintro e w9 ⟨rfl, g9, h1, h2, h3⟩
             have S9 := Lib.hid (S8.out.next h1 h2 h3)
             clear h1 h2 h3)
          | (go_at_call 64
             refine (rwBytesL w1.heap.size _ _ _ _ _ S9.out.wr HBO.out rfl (by rw [← HBO.out]; exact HBL.out)).mono ?_
             rintro e w10 ⟨b9, c9, rfl, hown, hb9⟩
             have S10 := Lib.hid (S9.out.on hb9)
             have O9 := Lib.hid hown
             clear hown hb9))
        go_ret
        exact ⟨b9, c9, rfl, ownsRow_le O9.out (Nat.le_trans HW0.out.size (Nat.le_trans H1.out.2.size S9.out.hB)), HW0.out.trans ((H1.out.2.trans (S10.out.below.mono H1.out.2.size)).mono HW0.out.size)⟩
      have HBO : Hid ([UInt8.ofNat 2] ++ uvarI off ++ uvarI time ++ textB ⟨key.toArray⟩ ++ enc val = bodyR ⟨1, off, time, pid, seq, key, val⟩) := by
        show _ = _
        unfold bodyR flagsR shortV
        simp only [HS.out, textB_L, uvarI, hp]
        simp
      have HBL : Hid (([UInt8.ofNat 2] ++ uvarI off ++ uvarI time ++ textB ⟨key.toArray⟩ ++ enc val).length ≤ 1000000000000) := by
        show _ ≤ _
        have u1 := uvar_le off.toNat
        have u2 := uvar_le time.toNat
        have u3 := uvar_le pid.toNat
        have u4 := uvar_le seq.toNat
        have u5 := uvar_le key.length
        have hv := Hn.out
        simp only [List.length_append, textB_L, textL, uvarI, List.length_singleton]
        omega
      clear hs
      go_wp2_with (first
        | (go_at_call 57
           refine (encodeR_any _ n cap0 val _ HRB0.out Hn.out (by omega)).mono ?_
           rintro e w1 ⟨b1, c1, rfl, ho1, hb1⟩
           have hx1 := Lib.hid (HX0.out.below hb1 HX0.out.lt)
           have HX1L : Hid (w.heap.size < w1.heap.size) := hx1.out.lt
           have hxc := hx1.out.cell
           have hxl := hx1.out.lt
           have H1 := Lib.hid (And.intro (ownsRow_rd ho1) hb1)
           have T1 : True := trivial
           clear ho1 hb1)
        | (go_at_call 60
           refine (rwNew _).mono ?_
           rintro e w2 ⟨rfl, hw2, hb2⟩
           have S2 := Lib.hid (WS.new (B := w1.heap.size) (Nat.le_refl _) hw2 hb2)
           clear hw2 hb2
           have hx := hx1.out.below S2.out.below HX1L.out
           have hxc := hx.cell
           have hxl := hx.lt
           clear hx)
        | (go_at_call 61
           refine (rwByteN w1.heap.size 2 none _ _ (by omega) (by simp) S2.out.wr).mono ?_
           rintro e w3 ⟨rfl, g3, h1, h2, h3⟩
           have S3 := Lib.hid (S2.out.next h1 h2 h3)
           have L3 : Hid (([UInt8.ofNat 2] : List UInt8).length ≤ 1) := Nat.le_refl _
           clear h1 h2 h3
           have hx := hx1.out.below S3.out.below HX1L.out
           have hxc := hx.cell
           have hxl := hx.lt
           clear hx)
        | (go_at_call 65
           have zz := T1
           clear zz
           refine (rwUv S3.out L3.out (by omega) off (by omega) (by omega)).mono ?_
           rintro e w4 ⟨rfl, g4, h1, h2, _⟩
           have S4 := Lib.hid h1
           have L4 := Lib.hid h2
           have T2 : True := trivial
           clear h1 h2 T1
           have hx := hx1.out.below S4.out.below HX1L.out
           have hxc := hx.cell
           have hxl := hx.lt
           clear hx)
        | (go_at_call 65
           have zz := T2
           clear zz
           refine (rwUv S4.out L4.out (by omega) time (by omega) (by omega)).mono ?_
           rintro e w5 ⟨rfl, g5, h1, h2, _⟩
           have S5 := Lib.hid h1
           have L5 := Lib.hid h2
           have T3 : True := trivial
           clear h1 h2 T2
           have hx := hx1.out.below S5.out.below HX1L.out
           have hxc := hx.cell
           have hxl := hx.lt
           clear hx)
        | (go_at_call 66
           refine (rwTx S5.out L5.out (by omega) ⟨key.toArray⟩ 64 Hk.out (by omega)).mono ?_
           rintro e w6 ⟨rfl, g6, h1, h2, _⟩
           have S6 := Lib.hid h1
           have L6 := Lib.hid h2
           clear h1 h2
           have hx := hx1.out.below S6.out.below HX1L.out
           have hxc := hx.cell
           have hxl := hx.lt
           clear hx)
        | (go_at_call 62
           refine (rwRaw w1.heap.size _ _ _ _ _ (enc val) _ S6.out.wr ((H1.out.1.below S6.out.below).mono S6.out.below.size) rfl (by have := L6.out; omega)).mono ?_
           rintro e w7 ⟨rfl, g7, h1, h2, h3⟩
           have S7 := Lib.hid (S6.out.next h1 h2 h3)
           clear h1 h2 h3)
        | (go_at_call 64
           refine (rwBytesL w1.heap.size _ _ _ _ _ S7.out.wr HBO.out rfl (by rw [← HBO.out]; exact HBL.out)).mono ?_
           rintro e w8 ⟨b9, c9, rfl, hown, hb9⟩
           have S8 := Lib.hid (S7.out.on hb9)
           have O9 := Lib.hid hown
           clear hown hb9))
      go_ret
      exact ⟨b9, c9, rfl, ownsRow_le O9.out (Nat.le_trans HW0.out.size (Nat.le_trans H1.out.2.size S7.out.hB)), HW0.out.trans ((H1.out.2.trans (S8.out.below.mono H1.out.2.size)).mono HW0.out.size)⟩
    have HS : Hid (small val = false) := by show _ = _; unfold small; rw [Hn.out]; exact decide_eq_false hs
    have hs1 : ¬ ((enc val).length : Int) < n := by omega
    by_cases hp : 0 < pid
    · have HBO : Hid ([UInt8.ofNat 4] ++ uvarI off ++ uvarI time ++ uvarI pid ++ uvarI seq ++ textB ⟨key.toArray⟩ ++ val = bodyR ⟨1, off, time, pid, seq, key, val⟩) := by
        show _ = _
        unfold bodyR flagsR shortV
        simp only [HS.out, textB_L, uvarI, hp]
        simp
      have HBL : Hid (([UInt8.ofNat 4] ++ uvarI off ++ uvarI time ++ uvarI pid ++ uvarI seq ++ textB ⟨key.toArray⟩ ++ val).length ≤ 1000000000000) := by
        show _ ≤ _
        have u1 := uvar_le off.toNat
        have u2 := uvar_le time.toNat
        have u3 := uvar_le pid.toNat
        have u4 := uvar_le seq.toNat
        have u5 := uvar_le key.length
        have hv := Hn.out
        simp only [List.length_append, textB_L, textL, uvarI, List.length_singleton]
        omega
      clear hs
      go_wp2_with (first
        | (go_at_call 57
           refine (encodeR_any _ n cap0 val _ HRB0.out Hn.out (by omega)).mono ?_
           rintro e w1 ⟨b1, c1, rfl, ho1, hb1⟩
           have hx1 := Lib.hid (HX0.out.below hb1 HX0.out.lt)
           have HX1L : Hid (w.heap.size < w1.heap.size) := hx1.out.lt
           have hxc := hx1.out.cell
           have hxl := hx1.out.lt
           have H1 := Lib.hid (And.intro (ownsRow_rd ho1) hb1)
           have T1 : True := trivial
           clear ho1 hb1)
        | (go_at_call 60
           refine (rwNew _).mono ?_
           rintro e w2 ⟨rfl, hw2, hb2⟩
           have S2 := Lib.hid (WS.new (B := w1.heap.size) (Nat.le_refl _) hw2 hb2)
           clear hw2 hb2
           have hx := hx1.out.below S2.out.below HX1L.out
           have hxc := hx.cell
           have hxl := hx.lt
           clear hx)
        | (go_at_call 61
           refine (rwByteN w1.heap.size 4 none _ _ (by omega) (by simp) S2.out.wr).mono ?_
           rintro e w3 ⟨rfl, g3, h1, h2, h3⟩
           have S3 := Lib.hid (S2.out.next h1 h2 h3)
           have L3 : Hid (([UInt8.ofNat 4] : List UInt8).length ≤ 1) := Nat.le_refl _
           clear h1 h2 h3
           have hx := hx1.out.below S3.out.below HX1L.out
           have hxc := hx.cell
           have hxl := hx.lt
           clear hx)
        | (go_at_call 65
           have zz := T1
           clear zz
           refine (rwUv S3.out L3.out (by omega) off (by omega) (by omega)).mono ?_
           rintro e w4 ⟨rfl, g4, h1, h2, _⟩
           have S4 := Lib.hid h1
           have L4 := Lib.hid h2
           have T2 : True := trivial
           clear h1 h2 T1
           have hx := hx1.out.below S4.out.below HX1L.out
           have hxc := hx.cell
           have hxl := hx.lt
           clear hx)
        | (go_at_call 65
           have zz := T2
           clear zz
           refine (rwUv S4.out L4.out (by omega) time (by omega) (by omega)).mono ?_
           rintro e w5 ⟨rfl, g5, h1, h2, _⟩
           have S5 := Lib.hid h1
           have L5 := Lib.hid h2
           have T3 : True := trivial
           clear h1 h2 T2
           have hx := hx1.out.below S5.out.below HX1L.out
           have hxc := hx.cell
           have hxl := hx.lt
           clear hx)
        | (go_at_call 65
           have zz := T3
           clear zz
           refine (rwUv S5.out L5.out (by omega) pid (by omega) (by omega)).mono ?_
           rintro e w6 ⟨rfl, g6, h1, h2, _⟩
           have S6 := Lib.hid h1
           have L6 := Lib.hid h2
           have T4 : True := trivial
           clear h1 h2 T3
           have hx := hx1.out.below S6.out.below HX1L.out
           have hxc := hx.cell
           have hxl := hx.lt
           clear hx)
        | (go_at_call 65
           have zz := T4
           clear zz
           refine (rwUv S6.out L6.out (by omega) seq (by omega) (by omega)).mono ?_
           rintro e w7 ⟨rfl, g7, h1, h2, _⟩
           have S7 := Lib.hid h1
           have L7 := Lib.hid h2
           have T5 : True := trivial
           clear h1 h2 T4
           have hx := hx1.out.below S7.out.below HX1L.out
           have hxc := hx.cell
           have hxl := hx.lt
           clear hx)
        | (go_at_call 66
           refine (rwTx S7.out L7.out (by omega) ⟨key.toArray⟩ 64 Hk.out (by omega)).mono ?_
           rintro e w8 ⟨rfl, g8, h1, h2, _⟩
           have S8 := Lib.hid h1
           have L8 := Lib.hid h2
           clear h1 h2
           have hx := hx1.out.below S8.out.below HX1L.out
           have hxc := hx.cell
           have hxl := hx.lt
           clear hx)
        | (go_at_call 62
           refine (rwRaw w1.heap.size _ _ _ _ _ val _ S8.out.wr ((HRB0.out.below (H1.out.2.trans (S8.out.below.mono H1.out.2.size))).mono (Nat.le_trans H1.out.2.size S8.out.below.size)) Hn.out (by have := L8.out; omega)).mono ?_
           rintro e w9 ⟨rfl, g9, h1, h2, h3⟩
           have S9 := Lib.hid (S8.out.next h1 h2 h3)
           clear h1 h2 h3)
        | (go_at_call 64
           refine (rwBytesL w1.heap.size _ _ _ _ _ S9.out.wr HBO.out rfl (by rw [← HBO.out]; exact HBL.out)).mono ?_
           rintro e w10 ⟨b9, c9, rfl, hown, hb9⟩
           have S10 := Lib.hid (S9.out.on hb9)
           have O9 := Lib.hid hown
           clear hown hb9))
      go_ret
      exact ⟨b9, c9, rfl, ownsRow_le O9.out (Nat.le_trans HW0.out.size (Nat.le_trans H1.out.2.size S9.out.hB)), HW0.out.trans ((H1.out.2.trans (S10.out.below.mono H1.out.2.size)).mono HW0.out.size)⟩
    have HBO : Hid ([UInt8.ofNat 0] ++ uvarI off ++ uvarI time ++ textB ⟨key.toArray⟩ ++ val = bodyR ⟨1, off, time, pid, seq, key, val⟩) := by
      show _ = _
      unfold bodyR flagsR shortV
      simp only [HS.out, textB_L, uvarI, hp]
      simp
    have HBL : Hid (([UInt8.ofNat 0] ++ uvarI off ++ uvarI time ++ textB ⟨key.toArray⟩ ++ val).length ≤ 1000000000000) := by
      show _ ≤ _
      have u1 := uvar_le off.toNat
      have u2 := uvar_le time.toNat
      have u3 := uvar_le pid.toNat
      have u4 := uvar_le seq.toNat
      have u5 := uvar_le key.length
      have hv := Hn.out
      simp only [List.length_append, textB_L, textL, uvarI, List.length_singleton]
      omega
    clear hs
    go_wp2_with (first
      | (go_at_call 57
         refine (encodeR_any _ n cap0 val _ HRB0.out Hn.out (by omega)).mono ?_
         rintro e w1 ⟨b1, c1, rfl, ho1, hb1⟩
         have hx1 := Lib.hid (HX0.out.below hb1 HX0.out.lt)
         have HX1L : Hid (w.heap.size < w1.heap.size) := hx1.out.lt
         have hxc := hx1.out.cell
         have hxl := hx1.out.lt
         have H1 := Lib.hid (And.intro (ownsRow_rd ho1) hb1)
         have T1 : True := trivial
         clear ho1 hb1)
      | (go_at_call 60
         refine (rwNew _).mono ?_
         rintro e w2 ⟨rfl, hw2, hb2⟩
         have S2 := Lib.hid (WS.new (B := w1.heap.size) (Nat.le_refl _) hw2 hb2)
         clear hw2 hb2
         have hx := hx1.out.below S2.out.below HX1L.out
         have hxc := hx.cell
         have hxl := hx.lt
         clear hx)
      | (go_at_call 61
         refine (rwByteN w1.heap.size 0 none _ _ (by omega) (by simp) S2.out.wr).mono ?_
         rintro e w3 ⟨rfl, g3, h1, h2, h3⟩
         have S3 := Lib.hid (S2.out.next h1 h2 h3)
         have L3 : Hid (([UInt8.ofNat 0] : List UInt8).length ≤ 1) := Nat.le_refl _
         clear h1 h2 h3
         have hx := hx1.out.below S3.out.below HX1L.out
         have hxc := hx.cell
         have hxl := hx.lt
         clear hx)
      | (go_at_call 65
         have zz := T1
         clear zz
         refine (rwUv S3.out L3.out (by omega) off (by omega) (by omega)).mono ?_
         rintro e w4 ⟨rfl, g4, h1, h2, _⟩
         have S4 := Lib.hid h1
         have L4 := Lib.hid h2
         have T2 : True := trivial
         clear h1 h2 T1
         have hx := hx1.out.below S4.out.below HX1L.out
         have hxc := hx.cell
         have hxl := hx.lt
         clear hx)
      | (go_at_call 65
         have zz := T2
         clear zz
         refine (rwUv S4.out L4.out (by omega) time (by omega) (by omega)).mono ?_
         rintro e w5 ⟨rfl, g5, h1, h2, _⟩
         have S5 := Lib.hid h1
         have L5 := Lib.hid h2
         have T3 : True := trivial
         clear h1 h2 T2
         have hx := hx1.out.below S5.out.below HX1L.out
         have hxc := hx.cell
         have hxl := hx.lt
         clear hx)
      | (go_at_call 66
         refine (rwTx S5.out L5.out (by omega) ⟨key.toArray⟩ 64 Hk.out (by omega)).mono ?_
         rintro e w6 ⟨rfl, g6, h1, h2, _⟩
         have S6 := Lib.hid h1
         have L6 := Lib.hid h2
         clear h1 h2
         have hx := hx1.out.below S6.out.below HX1L.out
         have hxc := hx.cell
         have hxl := hx.lt
         clear hx)
      | (go_at_call 62
         refine (rwRaw w1.heap.size _ _ _ _ _ val _ S6.out.wr ((HRB0.out.below (H1.out.2.trans (S6.out.below.mono H1.out.2.size))).mono (Nat.le_trans H1.out.2.size S6.out.below.size)) Hn.out (by have := L6.out; omega)).mono ?_
         rintro e w7 ⟨rfl, g7, h1, h2, h3⟩
         have S7 := Lib.hid (S6.out.next h1 h2 h3)
         clear h1 h2 h3)
      | (go_at_call 64
         refine (rwBytesL w1.heap.size _ _ _ _ _ S7.out.wr HBO.out rfl (by rw [← HBO.out]; exact HBL.out)).mono ?_
         rintro e w8 ⟨b9, c9, rfl, hown, hb9⟩
         have S8 := Lib.hid (S7.out.on hb9)
         have O9 := Lib.hid hown
         clear hown hb9))
    go_ret
    exact ⟨b9, c9, rfl, ownsRow_le O9.out (Nat.le_trans HW0.out.size (Nat.le_trans H1.out.2.size S7.out.hB)), HW0.out.trans ((H1.out.2.trans (S8.out.below.mono H1.out.2.size)).mono HW0.out.size)⟩
  by_cases hs : (enc val).length < n
  · have HS : Hid (small val = true) := by show _ = _; unfold small; rw [Hn.out]; exact decide_eq_true hs
    have hs1 : ((enc val).length : Int) < n := by omega
    by_cases hp : 0 < pid
    · have HBO : Hid ([UInt8.ofNat 7] ++ uvarI off ++ uvarI time ++ uvarI pid ++ uvarI seq ++ textB ⟨key.toArray⟩ ++ enc val = bodyR ⟨2, off, time, pid, seq, key, val⟩) := by
        show _ = _
        unfold bodyR flagsR shortV
        simp only [HS.out, textB_L, uvarI, hp]
        simp
      have HBL : Hid (([UInt8.ofNat 7] ++ uvarI off ++ uvarI time ++ uvarI pid ++ uvarI seq ++ textB ⟨key.toArray⟩ ++ enc val).length ≤ 1000000000000) := by
        show _ ≤ _
        have u1 := uvar_le off.toNat
        have u2 := uvar_le time.toNat
        have u3 := uvar_le pid.toNat
        have u4 := uvar_le seq.toNat
        have u5 := uvar_le key.length
        have hv := Hn.out
        simp only [List.length_append, textB_L, textL, uvarI, List.length_singleton]
        omega
      clear hs
      go_wp2_with (first
        | (go_at_call 57
           refine (encodeR_any _ n cap0 val _ HRB0.out Hn.out (by omega)).mono ?_
           rintro e w1 ⟨b1, c1, rfl, ho1, hb1⟩
           have hx1 := Lib.hid (HX0.out.below hb1 HX0.out.lt)
           have HX1L : Hid (w.heap.size < w1.heap.size) := hx1.out.lt
           have hxc := hx1.out.cell
           have hxl := hx1.out.lt
           have H1 := Lib.hid (And.intro (ownsRow_rd ho1) hb1)
           have T1 : True := trivial
           clear ho1 hb1)
        | (go_at_call 60
           refine (rwNew _).mono ?_
           rintro e w2 ⟨rfl, hw2, hb2⟩
           have S2 := Lib.hid (WS.new (B := w1.heap.size) (Nat.le_refl _) hw2 hb2)
           clear hw2 hb2
           have hx := hx1.out.below S2.out.below HX1L.out
           have hxc := hx.cell
           have hxl := hx.lt
           clear hx)
        | (go_at_call 61
           refine (rwByteN w1.heap.size 7 none _ _ (by omega) (by simp) S2.out.wr).mono ?_
           rintro e w3 ⟨rfl, g3, h1, h2, h3⟩
           have S3 := Lib.hid (S2.out.next h1 h2 h3)
           have L3 : Hid (([UInt8.ofNat 7] : List UInt8).length ≤ 1) := Nat.le_refl _
           clear h1 h2 h3
           have hx := hx1.out.below S3.out.below HX1L.out
           have hxc := hx.cell
           have hxl := hx.lt
           clear hx)
        | (go_at_call 65
           have zz := T1
           clear zz
           refine (rwUv S3.out L3.out (by omega) off (by omega) (by omega)).mono ?_
           rintro e w4 ⟨rfl, g4, h1, h2, _⟩
           have S4 := Lib.hid h1
           have L4 := Lib.hid h2
           have T2 : True := trivial
           clear h1 h2 T1
           have hx := hx1.out.below S4.out.below HX1L.out
           have hxc := hx.cell
           have hxl := hx.lt
           clear hx)
        | (go_at_call 65
           have zz := T2
           clear zz
           refine (rwUv S4.out L4.out (by omega) time (by omega) (by omega)).mono ?_
           rintro e w5 ⟨rfl, g5, h1, h2, _⟩
           have S5 := Lib.hid h1
           have L5 := Lib.hid h2
           have T3 : True := trivial
           clear h1 h2 T2
           have hx := hx1.out.below S5.out.below HX1L.out
           have hxc := hx.cell
           have hxl := hx.lt
           clear hx)
        | (go_at_call 65
           have zz := T3
           clear zz
           refine (rwUv S5.out L5.out (by omega) pid (by omega) (by omega)).mono ?_
           rintro e w6 ⟨rfl, g6, h1, h2, _⟩
           have S6 := Lib.hid h1
           have L6 := Lib.hid h2
           have T4 : True := trivial
           clear h1 h2 T3
           have hx := hx1.out.below S6.out.below HX1L.out
           have hxc := hx.cell
           have hxl := hx.lt
           clear hx)
        | (go_at_call 65
           have zz := T4
           clear zz
           refine (rwUv S6.out L6.out (by omega) seq (by omega) (by omega)).mono ?_
           rintro e w7 ⟨rfl, g7, h1, h2, _⟩
           have S7 := Lib.hid h1
           have L7 := Lib.hid h2
           have T5 : True := trivial
           clear h1 h2 T4
           have hx := hx1.out.below S7.out.below HX1L.out
           have hxc := hx.cell
           have hxl := hx.lt
           clear hx)
        | (go_at_call 66
           refine (rwTx S7.out L7.out (by omega) ⟨key.toArray⟩ 64 Hk.out (by omega)).mono ?_
           rintro e w8 ⟨rfl, g8, h1, h2, _⟩
           have S8 := Lib.hid h1
           have L8 := Lib.hid h2
           clear h1 h2
           have hx := hx1.out.below S8.out.below HX1L.out
           have hxc := hx.cell
           have hxl := hx.lt
           clear hx)
        | (go_at_call 62
           refine (rwRaw w1.heap.size _ _ _ _ _ (enc val) _ S8.out.wr ((H1.out.1.below S8.out.below).mono S8.out.below.size) rfl (by have := L8.out; omega)).mono ?_
           rintro e w9 ⟨rfl, g9, h1, h2, h3⟩
           have S9 := Lib.hid (S8.out.next h1 h2 h3)
           clear h1 h2 h3)
        | (go_at_call 64
           refine (rwBytesL w1.heap.size _ _ _ _ _ S9.out.wr HBO.out rfl (by rw [← HBO.out]; exact HBL.out)).mono ?_
           rintro e w10 ⟨b9, c9, rfl, hown, hb9⟩
           have S10 := Lib.hid (S9.out.on hb9)
           have O9 := Lib.hid hown
           clear hown hb9))
      go_ret
      exact ⟨b9, c9, rfl, ownsRow_le O9.out (Nat.le_trans HW0.out.size (Nat.le_trans H1.out.2.size S9.out.hB)), HW0.out.trans ((H1.out.2.trans (S10.out.below.mono H1.out.2.size)).mono HW0.out.size)⟩
    have HBO : Hid ([UInt8.ofNat 3] ++ uvarI off ++ uvarI time ++ textB ⟨key.toArray⟩ ++ enc val = bodyR ⟨2, off, time, pid, seq, key, val⟩) := by
      show _ = _
      unfold bodyR flagsR shortV
      simp only [HS.out, textB_L, uvarI, hp]
      simp
    have HBL : Hid (([UInt8.ofNat 3] ++ uvarI off ++ uvarI time ++ textB ⟨key.toArray⟩ ++ enc val).length ≤ 1000000000000) := by
      show _ ≤ _
      have u1 := uvar_le off.toNat
      have u2 := uvar_le time.toNat
      have u3 := uvar_le pid.toNat
      have u4 := uvar_le seq.toNat
      have u5 := uvar_le key.length
      have hv := Hn.out
      simp only [List.length_append, textB_L, textL, uvarI, List.length_singleton]
      omega
    clear hs
    go_wp2_with (first
      | (go_at_call 57
         refine (encodeR_any _ n cap0 val _ HRB0.out Hn.out (by omega)).mono ?_
         rintro e w1 ⟨b1, c1, rfl, ho1, hb1⟩
         have hx1 := Lib.hid (HX0.out.below hb1 HX0.out.lt)
         have HX1L : Hid (w.heap.size < w1.heap.size) := hx1.out.lt
         have hxc := hx1.out.cell
         have hxl := hx1.out.lt
         have H1 := Lib.hid (And.intro (ownsRow_rd ho1) hb1)
         have T1 : True := trivial
         clear ho1 hb1)
      | (go_at_call 60
         refine (rwNew _).mono ?_
         rintro e w2 ⟨rfl, hw2, hb2⟩
         have S2 := Lib.hid (WS.new (B := w1.heap.size) (Nat.le_refl _) hw2 hb2)
         clear hw2 hb2
         have hx := hx1.out.below S2.out.below HX1L.out
         have hxc := hx.cell
         have hxl := hx.lt
         clear hx)
      | (go_at_call 61
         refine (rwByteN w1.heap.size 3 none _ _ (by omega) (by simp) S2.out.wr).mono ?_
         rintro e w3 ⟨rfl, g3, h1, h2, h3⟩
         have S3 := Lib.hid (S2.out.next h1 h2 h3)
         have L3 : Hid (([UInt8.ofNat 3] : List UInt8).length ≤ 1) := Nat.le_refl _
         clear h1 h2 h3
         have hx := hx1.out.below S3.out.below HX1L.out
         have hxc := hx.cell
         have hxl := hx.lt
         clear hx)
      | (go_at_call 65
         have zz := T1
         clear zz
         refine (rwUv S3.out L3.out (by omega) off (by omega) (by omega)).mono ?_
         rintro e w4 ⟨rfl, g4, h1, h2, _⟩
         have S4 := Lib.hid h1
         have L4 := Lib.hid h2
         have T2 : True := trivial
         clear h1 h2 T1
         have hx := hx1.out.below S4.out.below HX1L.out
         have hxc := hx.cell
         have hxl := hx.lt
         clear hx)
      | (go_at_call 65
         have zz := T2
         clear zz
         refine (rwUv S4.out L4.out (by omega) time (by omega) (by omega)).mono ?_
         rintro e w5 ⟨rfl, g5, h1, h2, _⟩
         have S5 := Lib.hid h1
         have L5 := Lib.hid h2
         have T3 : True := trivial
         clear h1 h2 T2
         have hx := hx1.out.below S5.out.below HX1L.out
         have hxc := hx.cell
         have hxl := hx.lt
         clear hx)
      | (go_at_call 66
         refine (rwTx S5.out L5.out (by omega) ⟨key.toArray⟩ 64 Hk.out (by omega)).mono ?_
         rintro e w6 ⟨rfl, g6, h1, h2, _⟩
         have S6 := Lib.hid h1
         have L6 := Lib.hid h2
         clear h1 h2
         have hx := hx1.out.below S6.out.below HX1L.out
         have hxc := hx.cell
         have hxl := hx.lt
         clear hx)
      | (go_at_call 62
         refine (rwRaw w1.heap.size _ _ _ _ _ (enc val) _ S6.out.wr ((H1.out.1.below S6.out.below).mono S6.out.below.size) rfl (by have := L6.out; omega)).mono ?_
         rintro e w7 ⟨rfl, g7, h1, h2, h3⟩
         have S7 := Lib.hid (S6.out.next h1 h2 h3)
         clear h1 h2 h3)
      | (go_at_call 64
         refine (rwBytesL w1.heap.size _ _ _ _ _ S7.out.wr HBO.out rfl (by rw [← HBO.out]; exact HBL.out)).mono ?_
         rintro e w8 ⟨b9, c9, rfl, hown, hb9⟩
         have S8 := Lib.hid (S7.out.on hb9)
         have O9 := Lib.hid hown
         clear hown hb9))
    go_ret
    exact ⟨b9, c9, rfl, ownsRow_le O9.out (Nat.le_trans HW0.out.size (Nat.le_trans H1.out.2.size S7.out.hB)), HW0.out.trans ((H1.out.2.trans (S8.out.below.mono H1.out.2.size)).mono HW0.out.size)⟩
  have HS : Hid (small val = false) := by show _ = _; unfold small; rw [Hn.out]; exact decide_eq_false hs
  have hs1 : ¬ ((enc val).length : Int) < n := by omega
  by_cases hp : 0 < pid
  · have HBO : Hid ([UInt8.ofNat 5] ++ uvarI off ++ uvarI time ++ uvarI pid ++ uvarI seq ++ textB ⟨key.toArray⟩ ++ val = bodyR ⟨2, off, time, pid, seq, key, val⟩) := by
      show _ = _
      unfold bodyR flagsR shortV
      simp only [HS.out, textB_L, uvarI, hp]
      simp
    have HBL : Hid (([UInt8.ofNat 5] ++ uvarI off ++ uvarI time ++ uvarI pid ++ uvarI seq ++ textB ⟨key.toArray⟩ ++ val).length ≤ 1000000000000) := by
      show _ ≤ _
      have u1 := uvar_le off.toNat
      have u2 := uvar_le time.toNat
      have u3 := uvar_le pid.toNat
      have u4 := uvar_le seq.toNat
      have u5 := uvar_le key.length
      have hv := Hn.out
      simp only [List.length_append, textB_L, textL, uvarI, List.length_singleton]
      omega
    clear hs
    go_wp2_with (first
      | (go_at_call 57
         refine (encodeR_any _ n cap0 val _ HRB0.out Hn.out (by omega)).mono ?_
         rintro e w1 ⟨b1, c1, rfl, ho1, hb1⟩
         have hx1 := Lib.hid (HX0.out.below hb1 HX0.out.lt)
         have HX1L : Hid (w.heap.size < w1.heap.size) := hx1.out.lt
         have hxc := hx1.out.cell
         have hxl := hx1.out.lt
         have H1 := Lib.hid (And.intro (ownsRow_rd ho1) hb1)
         have T1 : True := trivial
         clear ho1 hb1)
      | (go_at_call 60
         refine (rwNew _).mono ?_
         rintro e w2 ⟨rfl, hw2, hb2⟩
         have S2 := Lib.hid (WS.new (B := w1.heap.size) (Nat.le_refl _) hw2 hb2)
         clear hw2 hb2
         have hx := hx1.out.below S2.out.below HX1L.out
         have hxc := hx.cell
         have hxl := hx.lt
         clear hx)
      | (go_at_call 61
         refine (rwByteN w1.heap.size 5 none _ _ (by omega) (by simp) S2.out.wr).mono ?_
         rintro e w3 ⟨rfl, g3, h1, h2, h3⟩
         have S3 := Lib.hid (S2.out.next h1 h2 h3)
         have L3 : Hid (([UInt8.ofNat 5] : List UInt8).length ≤ 1) := Nat.le_refl _
         clear h1 h2 h3
         have hx := hx1.out.below S3.out.below HX1L.out
         have hxc := hx.cell
         have hxl := hx.lt
         clear hx)
      | (go_at_call 65
         have zz := T1
         clear zz
         refine (rwUv S3.out L3.out (by omega) off (by omega) (by omega)).mono ?_
         rintro e w4 ⟨rfl, g4, h1, h2, _⟩
         have S4 := Lib.hid h1
         have L4 := Lib.hid h2
         have T2 : True := trivial
         clear h1 h2 T1
         have hx := hx1.out.below S4.out.below HX1L.out
         have hxc := hx.cell
         have hxl := hx.lt
         clear hx)
      | (go_at_call 65
         have zz := T2
         clear zz
         refine (rwUv S4.out L4.out (by omega) time (by omega) (by omega)).mono ?_
         rintro e w5 ⟨rfl, g5, h1, h2, _⟩
         have S5 := Lib.hid h1
         have L5 := Lib.hid h2
         have T3 : True := trivial
         clear h1 h2 T2
         have hx := hx1.out.below S5.out.below HX1L.out
         have hxc := hx.cell
         have hxl := hx.lt
         clear hx)
      | (go_at_call 65
         have zz := T3
         clear zz
         refine (rwUv S5.out L5.out (by omega) pid (by omega) (by omega)).mono ?_
         rintro e w6 ⟨rfl, g6, h1, h2, _⟩
         have S6 := Lib.hid h1
         have L6 := Lib.hid h2
         have T4 : True := trivial
         clear h1 h2 T3
         have hx := hx1.out.below S6.out.below HX1L.out
         have hxc := hx.cell
         have hxl := hx.lt
         clear hx)
      | (go_at_call 65
         have zz := T4
         clear zz
         refine (rwUv S6.out L6.out (by omega) seq (by omega) (by omega)).mono ?_
         rintro e w7 ⟨rfl, g7, h1, h2, _⟩
         have S7 := Lib.hid h1
         have L7 := Lib.hid h2
         have T5 : True := trivial
         clear h1 h2 T4
         have hx := hx1.out.below S7.out.below HX1L.out
         have hxc := hx.cell
         have hxl := hx.lt
         clear hx)
      | (go_at_call 66
         refine (rwTx S7.out L7.out (by omega) ⟨key.toArray⟩ 64 Hk.out (by omega)).mono ?_
         rintro e w8 ⟨rfl, g8, h1, h2, _⟩
         have S8 := Lib.hid h1
         have L8 := Lib.hid h2
         clear h1 h2
         have hx := hx1.out.below S8.out.below HX1L.out
         have hxc := hx.cell
         have hxl := hx.lt
         clear hx)
      | (go_at_call 62
         refine (rwRaw w1.heap.size _ _ _ _ _ val _ S8.out.wr ((HRB0.out.below (H1.out.2.trans (S8.out.below.mono H1.out.2.size))).mono (Nat.le_trans H1.out.2.size S8.out.below.size)) Hn.out (by have := L8.out; omega)).mono ?_
         rintro e w9 ⟨rfl, g9, h1, h2, h3⟩
         have S9 := Lib.hid (S8.out.next h1 h2 h3)
         clear h1 h2 h3)
      | (go_at_call 64
         refine (rwBytesL w1.heap.size _ _ _ _ _ S9.out.wr HBO.out rfl (by rw [← HBO.out]; exact HBL.out)).mono ?_
         rintro e w10 ⟨b9, c9, rfl, hown, hb9⟩
         have S10 := Lib.hid (S9.out.on hb9)
         have O9 := Lib.hid hown
         clear hown hb9))
    go_ret
    exact ⟨b9, c9, rfl, ownsRow_le O9.out (Nat.le_trans HW0.out.size (Nat.le_trans H1.out.2.size S9.out.hB)), HW0.out.trans ((H1.out.2.trans (S10.out.below.mono H1.out.2.size)).mono HW0.out.size)⟩
  have HBO : Hid ([UInt8.ofNat 1] ++ uvarI off ++ uvarI time ++ textB ⟨key.toArray⟩ ++ val = bodyR ⟨2, off, time, pid, seq, key, val⟩) := by
    show _ = _
    unfold bodyR flagsR shortV
    simp only [HS.out, textB_L, uvarI, hp]
    simp
  have HBL : Hid (([UInt8.ofNat 1] ++ uvarI off ++ uvarI time ++ textB ⟨key.toArray⟩ ++ val).length ≤ 1000000000000) := by
    show _ ≤ _
    have u1 := uvar_le off.toNat
    have u2 := uvar_le time.toNat
    have u3 := uvar_le pid.toNat
    have u4 := uvar_le seq.toNat
    have u5 := uvar_le key.length
    have hv := Hn.out
    simp only [List.length_append, textB_L, textL, uvarI, List.length_singleton]
    omega
  clear hs
  go_wp2_with (first
    | (go_at_call 57
       refine (encodeR_any _ n cap0 val _ HRB0.out Hn.out (by omega)).mono ?_
       rintro e w1 ⟨b1, c1, rfl, ho1, hb1⟩
       have hx1 := Lib.hid (HX0.out.below hb1 HX0.out.lt)
       have HX1L : Hid (w.heap.size < w1.heap.size) := hx1.out.lt
       have hxc := hx1.out.cell
       have hxl := hx1.out.lt
       have H1 := Lib.hid (And.intro (ownsRow_rd ho1) hb1)
       have T1 : True := trivial
       clear ho1 hb1)
    | (go_at_call 60
       refine (rwNew _).mono ?_
       rintro e w2 ⟨rfl, hw2, hb2⟩
       have S2 := Lib.hid (WS.new (B := w1.heap.size) (Nat.le_refl _) hw2 hb2)
       clear hw2 hb2
       have hx := hx1.out.below S2.out.below HX1L.out
       have hxc := hx.cell
       have hxl := hx.lt
       clear hx)
    | (go_at_call 61
       refine (rwByteN w1.heap.size 1 none _ _ (by omega) (by simp) S2.out.wr).mono ?_
       rintro e w3 ⟨rfl, g3, h1, h2, h3⟩
       have S3 := Lib.hid (S2.out.next h1 h2 h3)
       have L3 : Hid (([UInt8.ofNat 1] : List UInt8).length ≤ 1) := Nat.le_refl _
       clear h1 h2 h3
       have hx := hx1.out.below S3.out.below HX1L.out
       have hxc := hx.cell
       have hxl := hx.lt
       clear hx)
    | (go_at_call 65
       have zz := T1
       clear zz
       refine (rwUv S3.out L3.out (by omega) off (by omega) (by omega)).mono ?_
       rintro e w4 ⟨rfl, g4, h1, h2, _⟩
       have S4 := Lib.hid h1
       have L4 := Lib.hid h2
       have T2 : True := trivial
       clear h1 h2 T1
       have hx := hx1.out.below S4.out.below HX1L.out
       have hxc := hx.cell
       have hxl := hx.lt
       clear hx)
    | (go_at_call 65
       have zz := T2
       clear zz
       refine (rwUv S4.out L4.out (by omega) time (by omega) (by omega)).mono ?_
       rintro e w5 ⟨rfl, g5, h1, h2, _⟩
       have S5 := Lib.hid h1
       have L5 := Lib.hid h2
       have T3 : True := trivial
       clear h1 h2 T2
       have hx := hx1.out.below S5.out.below HX1L.out
       have hxc := hx.cell
       have hxl := hx.lt
       clear hx)
    | (go_at_call 66
       refine (rwTx S5.out L5.out (by omega) ⟨key.toArray⟩ 64 Hk.out (by omega)).mono ?_
       rintro e w6 ⟨rfl, g6, h1, h2, _⟩
       have S6 := Lib.hid h1
       have L6 := Lib.hid h2
       clear h1 h2
       have hx := hx1.out.below S6.out.below HX1L.out
       have hxc := hx.cell
       have hxl := hx.lt
       clear hx)
    | (go_at_call 62
       refine (rwRaw w1.heap.size _ _ _ _ _ val _ S6.out.wr ((HRB0.out.below (H1.out.2.trans (S6.out.below.mono H1.out.2.size))).mono (Nat.le_trans H1.out.2.size S6.out.below.size)) Hn.out (by have := L6.out; omega)).mono ?_
       rintro e w7 ⟨rfl, g7, h1, h2, h3⟩
       have S7 := Lib.hid (S6.out.next h1 h2 h3)
       clear h1 h2 h3)
    | (go_at_call 64
       refine (rwBytesL w1.heap.size _ _ _ _ _ S7.out.wr HBO.out rfl (by rw [← HBO.out]; exact HBL.out)).mono ?_
       rintro e w8 ⟨b9, c9, rfl, hown, hb9⟩
       have S8 := Lib.hid (S7.out.on hb9)
       have O9 := Lib.hid hown
       clear hown hb9))
  go_ret
  exact ⟨b9, c9, rfl, ownsRow_le O9.out (Nat.le_trans HW0.out.size (Nat.le_trans H1.out.2.size S7.out.hB)), HW0.out.trans ((H1.out.2.trans (S8.out.below.mono H1.out.2.size)).mono HW0.out.size)⟩
end Go.Proofs.YtmhlgbpgdhhfnaaGreat
