import Derived.Test.YtmhlgbpgdhhfnaaGreatV32
set_option linter.unusedVariables false
set_option linter.unusedSimpArgs false
namespace Go.Proofs.YtmhlgbpgdhhfnaaGreat
open Go.RowKit Go.Maps Sqz

/-! chronicleref4.Decode -/
theorem val4_snoc (l : List UInt8) (c : UInt8) : val4 (l ++ [c]) = val4 l * 256 + c.toNat := by unfold val4; rw [List.foldl_append]; rfl
set_option maxRecDepth 100000 in
set_option maxHeartbeats 8000000 in
theorem decodeQ_any (A : Option Addr) (n c : Nat) (b : List UInt8) (w : World) (hA : Rd w w.heap.size A (bv b)) (hn : b.length = n) (hc : n ≤ c) (hmx : n ≤ 1000000000) :
    Calls Tryz.prog 9 #[.slice A n c] w fun e w' => e = .returned (DRv (decRR csum rdR b)) ∧ Below w.heap.size w w' := by
  have HAZ : Hid (Rd (w.alloc (.cells #[.int .i64 0, .int .i64 0, .int .i64 0, .int .i64 0, .int .i64 0, .string ⟨#[]⟩, .string ⟨#[]⟩] 33)) w.heap.size A (bv b)) := hA.below ((Below.refl _ _).alloc (Nat.le_refl _) _)
  have HZ : Hid (Below w.heap.size w (w.alloc (.cells #[.int .i64 0, .int .i64 0, .int .i64 0, .int .i64 0, .int .i64 0, .string ⟨#[]⟩, .string ⟨#[]⟩] 33))) := (Below.refl _ _).alloc (Nat.le_refl _) _
  have HB0 : Hid (Box (w.alloc (.cells #[.int .i64 0, .int .i64 0, .int .i64 0, .int .i64 0, .int .i64 0, .string ⟨#[]⟩, .string ⟨#[]⟩] 33)) w.heap.size 33 #[.int .i64 0, .int .i64 0, .int .i64 0, .int .i64 0, .int .i64 0, .string ⟨#[]⟩, .string ⟨#[]⟩]) := Box.new w _ _
  have HL := Lib.hid hn
  have HA := Lib.hid hA
  generalize hRR : decRR csum rdR b = RR
  unfold decRR headD at hRR
  go_enter Tryz.func9, Tryz.ntmps9
  cases hb0 : b with
  | nil =>
    rw [hb0] at hRR
    simp only at hRR
    have HE : Hid (RR = .inl 40) := hRR.symm
    have hn0 : n = 0 := by rw [← hn, hb0]; rfl
    subst hn0
    clear hRR hb0 hA hn
    go_wp2
    refine bodyPost_ret (v := .tuple #[.agg #[.int .i64 0, .int .i64 0, .int .i64 0, .int .i64 0, .int .i64 0, .string ⟨#[]⟩, .string ⟨#[]⟩], .int .i64 0, .int .i64 40]) ?_ rfl ?_
    · simp [results, Tryz.results9, go_sem]
    rw [HE.out]
    refine ⟨rfl, ?_⟩
    have hB := HZ.out
    repeat (first | with_reducible exact hB | with_reducible exact below_drewN hB _ | refine Below.setCell ?_ (by simp) _)
  | cons y0 r0 =>
    have hpos : 0 < n := by rw [← hn, hb0]; simp
    rw [hb0] at hRR
    try simp only at hRR
    rw [← hb0] at hRR
    obtain ⟨ad, rfl, had, p0⟩ := hA 0 (.int .u8 y0.toNat) (by rw [hb0]; simp [bv])
    have p0' : w.cell? ad = some (.int .u8 y0.toNat) := by simpa [Addr.add] using p0
    replace p0' := (HZ.out.cell had).trans p0'
    by_cases h169 : y0 = 169
    · rw [if_neg (fun h => h h169)] at hRR
      have e169 : y0.toNat = 169 := by rw [h169]; rfl
      rw [e169] at p0'
      rw [hn] at hRR
      clear hb0 p0 h169 e169
      by_cases h5 : n < 5
      · rw [if_pos h5] at hRR
        have HE : Hid (RR = .inl 40) := hRR.symm
        have h5' : (n : Int) < 5 := by omega
        clear hRR hA hn
        go_wp2
        refine bodyPost_ret (v := .tuple #[.agg #[.int .i64 0, .int .i64 0, .int .i64 0, .int .i64 0, .int .i64 0, .string ⟨#[]⟩, .string ⟨#[]⟩], .int .i64 0, .int .i64 40]) ?_ rfl ?_
        · simp [results, Tryz.results9, go_sem]
        rw [HE.out]
        refine ⟨rfl, ?_⟩
        have hB := HZ.out
        repeat (first | with_reducible exact hB | with_reducible exact below_drewN hB _ | refine Below.setCell ?_ (by simp) _)
      rw [if_neg h5] at hRR
      try simp only at hRR
      have h5' : ¬ (n : Int) < 5 := by omega
      have HRR := Lib.hid hRR
      clear hRR hA hn
      go_wp2
      go_loopw [5, 6] (fun u v wr => ∃ (k x : Nat), k ≤ 4 ∧ v = .int .i64 ((1 + k : Nat) : Int) ∧ u = .int .i64 (val4 ((b.drop 1).take k) : Nat) ∧ wr = (w.alloc (.cells #[.int .i64 0, .int .i64 0, .int .i64 0, .int .i64 0, .int .i64 0, .string ⟨#[]⟩, .string ⟨#[]⟩] 33)).drewN x) (fun _ v _ => 5 - (intOf v).toNat)
      case atStart => exact ⟨0, 0, by omega, rfl, rfl, rfl⟩
      case round =>
        obtain ⟨k, x, hk, rfl, rfl, rfl⟩ := hrel
        by_cases hlt : k < 4
        · have g1 : 1 + k < b.length := by rw [HL.out]; omega
          obtain ⟨ad2, he2, had2, q0⟩ := HAZ.out (1 + k) (.int .u8 (b[1 + k]'g1).toNat) (by simp [bv, g1])
          obtain rfl : ad = ad2 := Option.some.inj he2
          have HV : Hid (val4 ((b.drop 1).take (k + 1)) = val4 ((b.drop 1).take k) * 256 + (b[1 + k]'g1).toNat) := by
            show _ = _
            rw [List.take_succ_eq_append_getElem (by rw [List.length_drop]; omega), val4_snoc, List.getElem_drop]
          have hvl : val4 ((b.drop 1).take k) < 16777216 := by
            have h1 := fxN_lt ((b.drop 1).take k)
            have h4 : ((b.drop 1).take k).length = k := by rw [List.length_take, List.length_drop]; omega
            rw [h4] at h1
            refine Nat.lt_of_lt_of_le h1 ?_
            have : k = 0 ∨ k = 1 ∨ k = 2 ∨ k = 3 := by omega
            rcases this with rfl | rfl | rfl | rfl <;> decide
          have hyl := (b[1 + k]'g1).toNat_lt
          generalize (b[1 + k]'g1).toNat = y at q0 HV hyl
          generalize hV0 : val4 ((b.drop 1).take k) = V at HV hvl ⊢
          have hk1 : (1 : Int) + (k : Int) < 5 := by omega
          go_wp2
          go_roundw
          case rel => exact ⟨k + 1, _, by omega, by go_num, by rw [HV.out]; go_num, rfl⟩
          case measure => simp [intOf]; omega
        obtain rfl : k = 4 := by omega
        have HZ2 : Hid (Below w.heap.size w ((w.alloc (.cells #[.int .i64 0, .int .i64 0, .int .i64 0, .int .i64 0, .int .i64 0, .string ⟨#[]⟩, .string ⟨#[]⟩] 33)).drewN x)) := below_drewN HZ.out x
        have HB2 : Hid (Box ((w.alloc (.cells #[.int .i64 0, .int .i64 0, .int .i64 0, .int .i64 0, .int .i64 0, .string ⟨#[]⟩, .string ⟨#[]⟩] 33)).drewN x) w.heap.size 33 #[.int .i64 0, .int .i64 0, .int .i64 0, .int .i64 0, .int .i64 0, .string ⟨#[]⟩, .string ⟨#[]⟩]) := HB0.out.below (below_drewN (Below.refl _ _) x) HB0.out.lt
        clear p0' HAZ HZ HB0
        generalize (w.alloc (.cells #[.int .i64 0, .int .i64 0, .int .i64 0, .int .i64 0, .int .i64 0, .string ⟨#[]⟩, .string ⟨#[]⟩] 33)).drewN x = w1 at HZ2 HB2 ⊢
        have hzc := HB2.out.cell
        have hzf := HB2.out.free
        have hzl := HB2.out.lt
        have HRR2 := HRR.out
        clear HRR
        obtain ⟨N, hN⟩ : ∃ N, val4 ((b.drop 1).take 4) = N := ⟨_, rfl⟩
        rw [hN] at HRR2 ⊢
        clear hN
        by_cases hN5 : N < 5 ∨ 1115 < N
        · rw [if_pos hN5] at HRR2
          have HE : Hid (RR = .inl 41) := HRR2.symm
          clear HRR2
          by_cases hN6 : N < 5
          · have g1 : (N : Int) < 5 := by omega
            clear hN5
            go_wp2
            refine bodyPost_ret (v := .tuple #[.agg #[.int .i64 0, .int .i64 0, .int .i64 0, .int .i64 0, .int .i64 0, .string ⟨#[]⟩, .string ⟨#[]⟩], .int .i64 0, .int .i64 41]) ?_ rfl ?_
            · simp [results, Tryz.results9, go_sem, hzc, hzl]
            rw [HE.out]
            refine ⟨rfl, ?_⟩
            have hB := HZ2.out
            repeat (first | with_reducible exact hB | with_reducible exact below_drewN hB _ | refine Below.setCell ?_ (by simp) _)
          have g1 : ¬ (N : Int) < 5 := by omega
          have g2 : (1115 : Int) < N := by omega
          clear hN5
          go_wp2
          refine bodyPost_ret (v := .tuple #[.agg #[.int .i64 0, .int .i64 0, .int .i64 0, .int .i64 0, .int .i64 0, .string ⟨#[]⟩, .string ⟨#[]⟩], .int .i64 0, .int .i64 41]) ?_ rfl ?_
          · simp [results, Tryz.results9, go_sem, hzc, hzl]
          rw [HE.out]
          refine ⟨rfl, ?_⟩
          have hB := HZ2.out
          repeat (first | with_reducible exact hB | with_reducible exact below_drewN hB _ | refine Below.setCell ?_ (by simp) _)
        rw [if_neg hN5] at HRR2
        have g1 : ¬ (N : Int) < 5 := by omega
        have g2 : ¬ (1115 : Int) < N := by omega
        by_cases hl9 : n < 9 + N
        · rw [if_pos hl9] at HRR2
          have HE : Hid (RR = .inl 40) := HRR2.symm
          have g3 : (n : Int) < 9 + (N : Int) := by omega
          clear HRR2
          go_wp2
          refine bodyPost_ret (v := .tuple #[.agg #[.int .i64 0, .int .i64 0, .int .i64 0, .int .i64 0, .int .i64 0, .string ⟨#[]⟩, .string ⟨#[]⟩], .int .i64 0, .int .i64 40]) ?_ rfl ?_
          · simp [results, Tryz.results9, go_sem, hzc, hzl]
          rw [HE.out]
          refine ⟨rfl, ?_⟩
          have hB := HZ2.out
          repeat (first | with_reducible exact hB | with_reducible exact below_drewN hB _ | refine Below.setCell ?_ (by simp) _)
        rw [if_neg hl9] at HRR2
        try simp only at HRR2
        have g3 : ¬ (n : Int) < 9 + (N : Int) := by omega
        have HX3 : Hid (((b.drop 9).take N).length = N) := by show _ = _; rw [List.length_take, List.length_drop, HL.out]; omega
        have HXT : Hid ((b.take (9 + N)).length = 9 + N) := by show _ = _; rw [List.length_take, HL.out]; omega
        have hB9 : tailA (some ad) c 9 = some ⟨ad.block, ad.off + 9, none⟩ := by unfold tailA; rw [if_neg (by omega)]; rfl
        have HR3 : Hid (Rd w w.heap.size (some ⟨ad.block, ad.off + 9, none⟩) (bv ((b.drop 9).take N))) := by rw [← hB9]; exact (HA.out.tail_ (cap := c) 9 (by rw [HL.out]; exact hc)).take_ N
        have H33 : Hid (Rd w w.heap.size (some ad) (bv (b.take (9 + N)))) := HA.out.take_ (9 + N)
        obtain ⟨x3, hx3⟩ : ∃ x3, (b.drop 9).take N = x3 := ⟨_, rfl⟩
        obtain ⟨xt, hxt⟩ : ∃ xt, b.take (9 + N) = xt := ⟨_, rfl⟩
        rw [hx3] at HX3 HR3 HRR2
        rw [hxt] at HXT H33 HRR2
        clear hx3 hxt
        have HRQ := Lib.hid (readQ_any (some ⟨ad.block, ad.off + 9, none⟩) N (c - 9) x3 w1 ((HR3.out.below HZ2.out).mono HZ2.out.size) HX3.out (by omega))
        obtain ⟨r, hr⟩ : ∃ r, rdR x3 = r := ⟨_, rfl⟩
        rw [hr] at HRQ HRR2
        clear hr
        obtain ⟨kd, off, tm, pd, sq, kk, vv⟩ := r
        have k1 : (9 : Int) + N ≤ c := by omega
        have k2 : ¬ c = 9 := by omega
        have k3 : 9 < c := by omega
        have k4 : ((9 : Int) + N).toNat = 9 + N := by omega
        have k5 : 9 + N - 9 = N := by omega
        have hsl9 : ∀ W, (Instr.slice 22 (.slice (some ad) n c) (some (.int .i64 9)) (some (.int .i64 (9 + (N : Int)))) none).run Tryz.prog W = .ok (.slice (some ⟨ad.block, ad.off + 9, none⟩) N (c - 9)) W := fun W => by rw [← hB9]; exact run_part2 W (some ad) n c 9 N 9 _ rfl rfl (by omega)
        by_cases hck : chkR ⟨kd, off, tm, pd, sq, kk, vv⟩ = 0
        · have HEE := Lib.hid hck
          have HEO : Hid (encO ⟨kd, off, tm, pd, sq, kk, vv⟩ = encRec csum ⟨kd, off, tm, pd, sq, kk, vv⟩) := if_pos hck
          have HEL : Hid ((encRec csum ⟨kd, off, tm, pd, sq, kk, vv⟩).length ≤ 1000000000) := by
            show _ ≤ _
            have hb := body_le hck
            rw [← wrap_enc _ (by omega), wrapB_len169]
            omega
          by_cases hsm : encRec csum ⟨kd, off, tm, pd, sq, kk, vv⟩ = xt
          · rw [if_pos ⟨hck, hsm⟩] at HRR2
            have HE : Hid (RR = .inr (⟨kd, off, tm, pd, sq, kk, vv⟩, 9 + N)) := HRR2.symm
            have HD : Hid (decide (encRec csum ⟨kd, off, tm, pd, sq, kk, vv⟩ = xt) = true) := decide_eq_true hsm
            clear HRR2 hck hsm
            go_wp2_with (first
              | (go_at_call 18
                 refine HRQ.out.mono ?_
                 rintro e w2 ⟨rfl, hb2⟩
                 unfold recV
                 have hbx := HB2.out.below hb2 HB2.out.lt
                 have hzc := hbx.cell
                 have hzf := hbx.free
                 have hzl := hbx.lt
                 have H2 := Lib.hid (And.intro hbx (HZ2.out.trans (hb2.mono HZ2.out.size)))
                 have hx7 := Box.new w2 33 #[.int .i64 kd, .int .i64 off, .int .i64 tm, .int .i64 pd, .int .i64 sq, .string ⟨kk.toArray⟩, .string ⟨vv.toArray⟩]
                 have hxc := hx7.cell
                 have hxf := hx7.free
                 have hxl := hx7.lt
                 have HX7 := Lib.hid hx7
                 clear hb2 hbx hx7)
              | (go_at_call 19
                 refine (encodeQ_any kd off tm pd sq kk vv _).mono ?_
                 rintro e w3 ⟨b3, c3, rfl, ho3, hb3⟩
                 rw [HEE.out, HEO.out]
                 have hb4 := ((Below.refl w2.heap.size w2).alloc (Nat.le_refl _) (.cells #[.int .i64 kd, .int .i64 off, .int .i64 tm, .int .i64 pd, .int .i64 sq, .string ⟨kk.toArray⟩, .string ⟨vv.toArray⟩] 33)).trans (hb3.mono (by simp))
                 have hbx3 := H2.out.1.below hb4 H2.out.1.lt
                 have hzc := hbx3.cell
                 have hzf := hbx3.free
                 have hzl := hbx3.lt
                 have hx8 := HX7.out.below hb3 HX7.out.lt
                 have hxc8 := hx8.cell
                 have hxf8 := hx8.free
                 have hxl8 := hx8.lt
                 clear hx8
                 have hrd3 := ownsRow_rd ho3
                 rw [HEO.out] at hrd3
                 have H3 := Lib.hid (And.intro hrd3 (H2.out.2.trans (hb4.mono H2.out.2.size)))
                 clear ho3 hb3 hb4 hbx3 hrd3)
              | (go_at_call 20
                 refine (same4_any _ (some ad) _ _ (9 + N) c (encRec csum ⟨kd, off, tm, pd, sq, kk, vv⟩) xt _ H3.out.1 rfl ((H33.out.below H3.out.2).mono H3.out.2.size) HXT.out HEL.out (by omega)).mono ?_
                 rintro e w4 ⟨rfl, m, rfl⟩
                 rw [HD.out]))
            refine bodyPost_ret (v := .tuple #[.agg #[.int .i64 kd, .int .i64 off, .int .i64 tm, .int .i64 pd, .int .i64 sq, .string ⟨kk.toArray⟩, .string ⟨vv.toArray⟩], .int .i64 (9 + (N : Int)), .int .i64 0]) ?_ rfl ?_
            · simp [results, Tryz.results9, go_sem, hzc, hzl]
            have e9 : ((9 + N : Nat) : Int) = 9 + (N : Int) := by omega
            rw [HE.out]
            refine ⟨by simp only [DRv, recV, e9], ?_⟩
            have hB := below_drewN H3.out.2 m
            repeat (first | with_reducible exact hB | with_reducible exact H3.out.2 | refine Below.setCell ?_ (by simp) _)
          rw [if_neg (fun h => hsm h.2)] at HRR2
          have HE : Hid (RR = .inl 41) := HRR2.symm
          have HD : Hid (decide (encRec csum ⟨kd, off, tm, pd, sq, kk, vv⟩ = xt) = false) := decide_eq_false hsm
          clear HRR2 hck hsm
          go_wp2_with (first
            | (go_at_call 18
               refine HRQ.out.mono ?_
               rintro e w2 ⟨rfl, hb2⟩
               unfold recV
               have hbx := HB2.out.below hb2 HB2.out.lt
               have hzc := hbx.cell
               have hzf := hbx.free
               have hzl := hbx.lt
               have H2 := Lib.hid (And.intro hbx (HZ2.out.trans (hb2.mono HZ2.out.size)))
               have hx7 := Box.new w2 33 #[.int .i64 kd, .int .i64 off, .int .i64 tm, .int .i64 pd, .int .i64 sq, .string ⟨kk.toArray⟩, .string ⟨vv.toArray⟩]
               have hxc := hx7.cell
               have hxf := hx7.free
               have hxl := hx7.lt
               have HX7 := Lib.hid hx7
               clear hb2 hbx hx7)
            | (go_at_call 19
               refine (encodeQ_any kd off tm pd sq kk vv _).mono ?_
               rintro e w3 ⟨b3, c3, rfl, ho3, hb3⟩
               rw [HEE.out, HEO.out]
               have hb4 := ((Below.refl w2.heap.size w2).alloc (Nat.le_refl _) (.cells #[.int .i64 kd, .int .i64 off, .int .i64 tm, .int .i64 pd, .int .i64 sq, .string ⟨kk.toArray⟩, .string ⟨vv.toArray⟩] 33)).trans (hb3.mono (by simp))
               have hbx3 := H2.out.1.below hb4 H2.out.1.lt
               have hzc := hbx3.cell
               have hzf := hbx3.free
               have hzl := hbx3.lt
               have hx8 := HX7.out.below hb3 HX7.out.lt
               have hxc8 := hx8.cell
               have hxf8 := hx8.free
               have hxl8 := hx8.lt
               clear hx8
               have hrd3 := ownsRow_rd ho3
               rw [HEO.out] at hrd3
               have H3 := Lib.hid (And.intro hrd3 (H2.out.2.trans (hb4.mono H2.out.2.size)))
               clear ho3 hb3 hb4 hbx3 hrd3)
            | (go_at_call 20
               refine (same4_any _ (some ad) _ _ (9 + N) c (encRec csum ⟨kd, off, tm, pd, sq, kk, vv⟩) xt _ H3.out.1 rfl ((H33.out.below H3.out.2).mono H3.out.2.size) HXT.out HEL.out (by omega)).mono ?_
               rintro e w4 ⟨rfl, m, rfl⟩
               rw [HD.out]))
          refine bodyPost_ret (v := .tuple #[.agg #[.int .i64 0, .int .i64 0, .int .i64 0, .int .i64 0, .int .i64 0, .string ⟨#[]⟩, .string ⟨#[]⟩], .int .i64 0, .int .i64 41]) ?_ rfl ?_
          · simp [results, Tryz.results9, go_sem, hzc, hzl]
          rw [HE.out]
          refine ⟨rfl, ?_⟩
          have hB := below_drewN H3.out.2 m
          repeat (first | with_reducible exact hB | with_reducible exact below_drewN hB _ | refine Below.setCell ?_ (by simp) _)
        rw [if_neg (fun h => hck h.1)] at HRR2
        have HE : Hid (RR = .inl 41) := HRR2.symm
        obtain ⟨EE, hEE⟩ : ∃ EE, chkR ⟨kd, off, tm, pd, sq, kk, vv⟩ = EE := ⟨_, rfl⟩
        have hEN : ¬ EE = 0 := by rw [← hEE]; exact hck
        have hEB : (EE != 0) = true := by simp [hEN]
        have HEE := Lib.hid hEE
        clear HRR2 hck hEE
        go_wp2_with (first
          | (go_at_call 18
             refine HRQ.out.mono ?_
             rintro e w2 ⟨rfl, hb2⟩
             unfold recV
             have hbx := HB2.out.below hb2 HB2.out.lt
             have hzc := hbx.cell
             have hzf := hbx.free
             have hzl := hbx.lt
             have H2 := Lib.hid (And.intro hbx (HZ2.out.trans (hb2.mono HZ2.out.size)))
             have hx7 := Box.new w2 33 #[.int .i64 kd, .int .i64 off, .int .i64 tm, .int .i64 pd, .int .i64 sq, .string ⟨kk.toArray⟩, .string ⟨vv.toArray⟩]
             have hxc := hx7.cell
             have hxf := hx7.free
             have hxl := hx7.lt
             have HX7 := Lib.hid hx7
             clear hb2 hbx hx7)
          | (go_at_call 19
             refine (encodeQ_any kd off tm pd sq kk vv _).mono ?_
             rintro e w3 ⟨b3, c3, rfl, ho3, hb3⟩
             rw [HEE.out]
             have hb4 := ((Below.refl w2.heap.size w2).alloc (Nat.le_refl _) (.cells #[.int .i64 kd, .int .i64 off, .int .i64 tm, .int .i64 pd, .int .i64 sq, .string ⟨kk.toArray⟩, .string ⟨vv.toArray⟩] 33)).trans (hb3.mono (by simp))
             have hbx3 := H2.out.1.below hb4 H2.out.1.lt
             have hzc := hbx3.cell
             have hzf := hbx3.free
             have hzl := hbx3.lt
             have hx8 := HX7.out.below hb3 HX7.out.lt
             have hxc8 := hx8.cell
             have hxf8 := hx8.free
             have hxl8 := hx8.lt
             clear hx8
             have H3 := Lib.hid (H2.out.2.trans (hb4.mono H2.out.2.size))
             clear ho3 hb3 hb4 hbx3))
        refine bodyPost_ret (v := .tuple #[.agg #[.int .i64 0, .int .i64 0, .int .i64 0, .int .i64 0, .int .i64 0, .string ⟨#[]⟩, .string ⟨#[]⟩], .int .i64 0, .int .i64 41]) ?_ rfl ?_
        · simp [results, Tryz.results9, go_sem, hzc, hzl]
        rw [HE.out]
        refine ⟨rfl, ?_⟩
        have hB := H3.out
        repeat (first | with_reducible exact hB | with_reducible exact below_drewN hB _ | refine Below.setCell ?_ (by simp) _)
    rw [if_pos (fun h => h169 h)] at hRR
    have HE : Hid (RR = .inl 41) := hRR.symm
    have hne : y0.toNat ≠ 169 := fun h => h169 (UInt8.toNat_inj.1 h)
    have hni : ((y0.toNat : Int) != 169) = true := by simp; omega
    clear hRR hA hn hb0 p0 h169
    generalize y0.toNat = y at *
    go_wp2
    refine bodyPost_ret (v := .tuple #[.agg #[.int .i64 0, .int .i64 0, .int .i64 0, .int .i64 0, .int .i64 0, .string ⟨#[]⟩, .string ⟨#[]⟩], .int .i64 0, .int .i64 41]) ?_ rfl ?_
    · simp [results, Tryz.results9, go_sem]
    rw [HE.out]
    refine ⟨rfl, ?_⟩
    have hB := HZ.out
    repeat (first | with_reducible exact hB | with_reducible exact below_drewN hB _ | refine Below.setCell ?_ (by simp) _)
end Go.Proofs.YtmhlgbpgdhhfnaaGreat
