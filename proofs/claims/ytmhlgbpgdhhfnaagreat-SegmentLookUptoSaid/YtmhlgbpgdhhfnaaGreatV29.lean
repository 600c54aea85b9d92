import Derived.Test.YtmhlgbpgdhhfnaaGreatV25
import Derived.Deep.DeepCutAuto
set_option linter.unusedVariables false
set_option linter.unusedSimpArgs false
namespace Go.Proofs.YtmhlgbpgdhhfnaaGreat
open Go.RowKit Go.Maps Sqz

/-! record.Decode -/
def csum (l : List UInt8) : Nat := crcE 0 l
theorem crcX_app (x : Nat) (a b : List UInt8) : crcX x (a ++ b) = crcX (crcX x a) b := by unfold crcX; rw [List.foldl_append]
theorem csum_app (a b : List UInt8) : crcE (crcE 0 a) b = csum (a ++ b) := by
  have h := crcX_lt 4294967295 a (by decide)
  unfold csum crcE
  rw [crcX_app]
  congr 2
  simp only [Nat.sub_zero]
  omega
theorem csum_lt (l : List UInt8) : csum l < 4294967296 := crcE_lt _ _
def recV (r : Rc) : Value := .agg #[.int .i64 r.kind, .int .i64 r.off, .int .i64 r.time, .int .i64 r.pid, .int .i64 r.seq, .string ⟨r.key.toArray⟩, .string ⟨r.val.toArray⟩]
def DRv (R : Int ⊕ (Rc × Nat)) : Value := match R with
  | .inl e => .tuple #[.agg #[.int .i64 0, .int .i64 0, .int .i64 0, .int .i64 0, .int .i64 0, .string ⟨#[]⟩, .string ⟨#[]⟩], .int .i64 0, .int .i64 e]
  | .inr x => .tuple #[recV x.1, .int .i64 x.2, .int .i64 0]
theorem octRU32D (p u : Nat) (l t : List UInt8) (s s' : RSt) (w : World) (h : ORd w p l s) (hu : tkS 4 l s = (t, s')) (ht : val4 t = u) (hmx : l.length ≤ 140737488355328) :
    Calls Tryz.prog 26 #[.pointer (some ⟨p, 0, none⟩)] w fun e w' => e = .returned (.int .u32 u) ∧ RAft p l s' w w' := by
  have := octRU32 p l s w h hmx
  rw [hu] at this
  subst ht
  exact this
set_option maxRecDepth 100000 in
set_option maxHeartbeats 8000000 in
theorem decRec_any (A : Option Addr) (n c : Nat) (b : List UInt8) (w : World) (hA : Rd w w.heap.size A (bv b)) (hn : b.length = n) (hc : n ≤ c) (hmx : n ≤ 1000000000000) :
    Calls Tryz.prog 29 #[.slice A n c] w fun e w' => e = .returned (DRv (decPR csum b)) ∧ Below w.heap.size w w' := by
  have HAZ : Hid (Rd (w.alloc (.cells #[.int .i64 0, .int .i64 0, .int .i64 0, .int .i64 0, .int .i64 0, .string ⟨#[]⟩, .string ⟨#[]⟩] 33)) (w.alloc (.cells #[.int .i64 0, .int .i64 0, .int .i64 0, .int .i64 0, .int .i64 0, .string ⟨#[]⟩, .string ⟨#[]⟩] 33)).heap.size A (bv b)) := by
    have hb : Below w.heap.size w (w.alloc (.cells #[.int .i64 0, .int .i64 0, .int .i64 0, .int .i64 0, .int .i64 0, .string ⟨#[]⟩, .string ⟨#[]⟩] 33)) := (Below.refl _ _).alloc (Nat.le_refl _) _
    exact (hA.below hb).mono hb.size
  have HZ : Hid (Below w.heap.size w (w.alloc (.cells #[.int .i64 0, .int .i64 0, .int .i64 0, .int .i64 0, .int .i64 0, .string ⟨#[]⟩, .string ⟨#[]⟩] 33))) := (Below.refl _ _).alloc (Nat.le_refl _) _
  have HB0 : Hid (Box (w.alloc (.cells #[.int .i64 0, .int .i64 0, .int .i64 0, .int .i64 0, .int .i64 0, .string ⟨#[]⟩, .string ⟨#[]⟩] 33)) w.heap.size 33 #[.int .i64 0, .int .i64 0, .int .i64 0, .int .i64 0, .int .i64 0, .string ⟨#[]⟩, .string ⟨#[]⟩]) := Box.new w _ _
  have HL := Lib.hid hn
  have HA := Lib.hid hA
  generalize hRR : decPR csum b = RR
  unfold decPR headD at hRR
  go_enter Tryz.func29, Tryz.ntmps29
  cases hb0 : b with
  | nil =>
    rw [hb0] at hRR
    simp only at hRR
    have HE : Hid (RR = .inl 40) := hRR.symm
    have hn0 : n = 0 := by rw [← hn, hb0]; rfl
    subst hn0
    clear hRR hb0 hA hn
    go_wp2
    refine bodyPost_ret (v := .tuple #[.agg #[.int .i64 0, .int .i64 0, .int .i64 0, .int .i64 0, .int .i64 0, .string ⟨#[]⟩, .string ⟨#[]⟩], .int .i64 0, .int .i64 40]) ?_ rfl ?_
    · simp [results, Tryz.results29, go_sem]
    rw [HE.out]
    refine ⟨rfl, ?_⟩
    have hB := HZ.out
    repeat (first | with_reducible exact hB | refine Below.setCell ?_ (by simp) _)
  | cons y0 r0 =>
    have hpos : 0 < n := by rw [← hn, hb0]; simp
    rw [hb0] at hRR
    try simp only at hRR
    rw [← hb0] at hRR
    obtain ⟨ad, rfl, had, p0⟩ := hA 0 (.int .u8 y0.toNat) (by rw [hb0]; simp [bv])
    have p0' : w.cell? ad = some (.int .u8 y0.toNat) := by simpa [Addr.add] using p0
    replace p0' := (HZ.out.cell had).trans p0'
    by_cases h169 : y0 = 169
    · rw [if_neg (fun h => h h169)] at hRR
      have e169 : y0.toNat = 169 := by rw [h169]; rfl
      rw [e169] at p0'
      rw [hn] at hRR
      clear hb0 p0 h169 e169
      by_cases h5 : n < 5
      · rw [if_pos h5] at hRR
        have HE : Hid (RR = .inl 40) := hRR.symm
        have h5' : (n : Int) < 5 := by omega
        clear hRR hA hn
        go_wp2
        refine bodyPost_ret (v := .tuple #[.agg #[.int .i64 0, .int .i64 0, .int .i64 0, .int .i64 0, .int .i64 0, .string ⟨#[]⟩, .string ⟨#[]⟩], .int .i64 0, .int .i64 40]) ?_ rfl ?_
        · simp [results, Tryz.results29, go_sem]
        rw [HE.out]
        refine ⟨rfl, ?_⟩
        have hB := HZ.out
        repeat (first | with_reducible exact hB | refine Below.setCell ?_ (by simp) _)
      rw [if_neg h5] at hRR
      try simp only at hRR
      have h5' : ¬ (n : Int) < 5 := by omega
      obtain ⟨N, hN⟩ : ∃ N, val4 ((b.drop 1).take 4) = N := ⟨_, rfl⟩
      rw [hN] at hRR
      obtain ⟨q, hq⟩ : ∃ q, min n 9 - 1 = q := ⟨_, rfl⟩
      have hq4 : 4 ≤ q := by omega
      have hmin : (if (9 : Int) < n then (9 : Int) else n) = ((1 + q : Nat) : Int) := by split <;> omega
      have hsl : ∀ W, (Instr.slice 22 (.slice (some ad) n c) (some (.int .i64 1)) (some (.int .i64 ((1 + q : Nat) : Int))) none).run Tryz.prog W = .ok (.slice (tailA (some ad) c 1) q (c - 1)) W := fun W => run_part2 W (some ad) n c 1 q 1 _ rfl (by omega) (by omega)
      have hB : tailA (some ad) c 1 = some ⟨ad.block, ad.off + 1, none⟩ := by unfold tailA; rw [if_neg (by omega)]; rfl
      have HLL : Hid (((b.drop 1).take q).length = q) := by show _ = _; rw [List.length_take, List.length_drop, hn]; omega
      have HRl : Hid (Rd (w.alloc (.cells #[.int .i64 0, .int .i64 0, .int .i64 0, .int .i64 0, .int .i64 0, .string ⟨#[]⟩, .string ⟨#[]⟩] 33)) (w.alloc (.cells #[.int .i64 0, .int .i64 0, .int .i64 0, .int .i64 0, .int .i64 0, .string ⟨#[]⟩, .string ⟨#[]⟩] 33)).heap.size (some ⟨ad.block, ad.off + 1, none⟩) (bv ((b.drop 1).take q))) := by rw [← hB]; exact (HAZ.out.tail_ (cap := c) 1 (by rw [hn]; exact hc)).take_ q
      have HT1 : Hid (tkS 4 ((b.drop 1).take q) ⟨0, false⟩ = ((b.drop 1).take 4, ⟨4, false⟩)) := by
        show _ = _
        rw [tkS_ok rfl (by show 0 + 4 ≤ _; rw [HLL.out]; omega)]
        show ((((b.drop 1).take q).drop 0).take 4, _) = _
        rw [List.drop_zero, List.take_take, Nat.min_eq_left hq4]
      have HT2 : Hid (9 ≤ n → tkS 4 ((b.drop 1).take q) ⟨4, false⟩ = ((b.drop 5).take 4, ⟨8, false⟩)) := by
        intro h9
        have hq8 : q = 8 := by omega
        rw [tkS_ok rfl (by show 4 + 4 ≤ _; rw [HLL.out]; omega)]
        show ((((b.drop 1).take q).drop 4).take 4, _) = _
        rw [List.drop_take, List.drop_drop, List.take_take, hq8]
        rfl
      have HN := Lib.hid hN
      have HMX : Hid (((b.drop 1).take q).length ≤ 140737488355328) := by show _ ≤ _; rw [HLL.out]; omega
      have hN32 : N < 4294967296 := by
        rw [← hN]
        have := fxN_lt ((b.drop 1).take 4)
        have h4 : ((b.drop 1).take 4).length = 4 := by rw [List.length_take, List.length_drop, hn]; omega
        rw [h4] at this
        exact this
      clear hN hq
      generalize (b.drop 1).take q = l8 at *
      by_cases hN5 : N < 5 ∨ 1115 < N
      · rw [if_pos hN5] at hRR
        have HE : Hid (RR = .inl 41) := hRR.symm
        clear hRR hA hn
        by_cases hN5' : N < 5
        · have g1 : (N : Int) < 5 := by omega
          clear hN5
          go_wp2_with (first
            | (go_at_call 24
               refine (octNewR (some ⟨ad.block, ad.off + 1, none⟩) q (c - 1) l8 _ HRl.out HLL.out (by omega)).mono ?_
               rintro e w1 ⟨p, rfl, ho, hp, hb⟩
               have H1 := Lib.hid (And.intro ho (And.intro hp hb))
               clear ho hp hb)
            | (go_at_call 26
               refine (octRU32D p N l8 _ ⟨0, false⟩ ⟨4, false⟩ _ H1.out.1 HT1.out HN.out HMX.out).mono ?_
               rintro e w2 ⟨rfl, ha⟩
               have hpz : w.heap.size < p := by have := H1.out.2.1; simp at this; omega
               have hbx := (HB0.out.below H1.out.2.2 (by simp)).chg ha.2 (fun e => by have e' : w.heap.size = p := e; omega)
               have hzc := hbx.cell
               have hzf := hbx.free
               have hzl := hbx.lt
               have hbl1 : Below w.heap.size w w1 := HZ.out.trans (H1.out.2.2.mono (by simp))
               have hbl := hbl1.trans (ha.2.below hbl1.size (fun k hk => by have hk' : k = p := hk; omega))
               have H2 := Lib.hid (And.intro ha.1 (And.intro hbx hbl))
               clear ha hbx hbl hbl1))
          refine bodyPost_ret (v := .tuple #[.agg #[.int .i64 0, .int .i64 0, .int .i64 0, .int .i64 0, .int .i64 0, .string ⟨#[]⟩, .string ⟨#[]⟩], .int .i64 0, .int .i64 41]) ?_ rfl ?_
          · simp [results, Tryz.results29, go_sem, hzc, hzl]
          rw [HE.out]
          refine ⟨rfl, ?_⟩
          have hB := H2.out.2.2
          repeat (first | with_reducible exact hB | refine Below.setCell ?_ (by simp) _)
        have g1 : ¬ (N : Int) < 5 := by omega
        have g2 : (1115 : Int) < N := by omega
        clear hN5
        go_wp2_with (first
          | (go_at_call 24
             refine (octNewR (some ⟨ad.block, ad.off + 1, none⟩) q (c - 1) l8 _ HRl.out HLL.out (by omega)).mono ?_
             rintro e w1 ⟨p, rfl, ho, hp, hb⟩
             have H1 := Lib.hid (And.intro ho (And.intro hp hb))
             clear ho hp hb)
          | (go_at_call 26
             refine (octRU32D p N l8 _ ⟨0, false⟩ ⟨4, false⟩ _ H1.out.1 HT1.out HN.out HMX.out).mono ?_
             rintro e w2 ⟨rfl, ha⟩
             have hpz : w.heap.size < p := by have := H1.out.2.1; simp at this; omega
             have hbx := (HB0.out.below H1.out.2.2 (by simp)).chg ha.2 (fun e => by have e' : w.heap.size = p := e; omega)
             have hzc := hbx.cell
             have hzf := hbx.free
             have hzl := hbx.lt
             have hbl1 : Below w.heap.size w w1 := HZ.out.trans (H1.out.2.2.mono (by simp))
             have hbl := hbl1.trans (ha.2.below hbl1.size (fun k hk => by have hk' : k = p := hk; omega))
             have H2 := Lib.hid (And.intro ha.1 (And.intro hbx hbl))
             clear ha hbx hbl hbl1))
        refine bodyPost_ret (v := .tuple #[.agg #[.int .i64 0, .int .i64 0, .int .i64 0, .int .i64 0, .int .i64 0, .string ⟨#[]⟩, .string ⟨#[]⟩], .int .i64 0, .int .i64 41]) ?_ rfl ?_
        · simp [results, Tryz.results29, go_sem, hzc, hzl]
        rw [HE.out]
        refine ⟨rfl, ?_⟩
        have hB := H2.out.2.2
        repeat (first | with_reducible exact hB | refine Below.setCell ?_ (by simp) _)
      rw [if_neg hN5] at hRR
      have g1 : ¬ (N : Int) < 5 := by omega
      have g2 : ¬ (1115 : Int) < N := by omega
      by_cases hl9 : n < 9 + N
      · rw [if_pos hl9] at hRR
        have HE : Hid (RR = .inl 40) := hRR.symm
        have g3 : (n : Int) < 9 + (N : Int) := by omega
        clear hRR hA hn
        go_wp2_with (first
          | (go_at_call 24
             refine (octNewR (some ⟨ad.block, ad.off + 1, none⟩) q (c - 1) l8 _ HRl.out HLL.out (by omega)).mono ?_
             rintro e w1 ⟨p, rfl, ho, hp, hb⟩
             have H1 := Lib.hid (And.intro ho (And.intro hp hb))
             clear ho hp hb)
          | (go_at_call 26
             refine (octRU32D p N l8 _ ⟨0, false⟩ ⟨4, false⟩ _ H1.out.1 HT1.out HN.out HMX.out).mono ?_
             rintro e w2 ⟨rfl, ha⟩
             have hpz : w.heap.size < p := by have := H1.out.2.1; simp at this; omega
             have hbx := (HB0.out.below H1.out.2.2 (by simp)).chg ha.2 (fun e => by have e' : w.heap.size = p := e; omega)
             have hzc := hbx.cell
             have hzf := hbx.free
             have hzl := hbx.lt
             have hbl1 : Below w.heap.size w w1 := HZ.out.trans (H1.out.2.2.mono (by simp))
             have hbl := hbl1.trans (ha.2.below hbl1.size (fun k hk => by have hk' : k = p := hk; omega))
             have H2 := Lib.hid (And.intro ha.1 (And.intro hbx hbl))
             clear ha hbx hbl hbl1))
        refine bodyPost_ret (v := .tuple #[.agg #[.int .i64 0, .int .i64 0, .int .i64 0, .int .i64 0, .int .i64 0, .string ⟨#[]⟩, .string ⟨#[]⟩], .int .i64 0, .int .i64 40]) ?_ rfl ?_
        · simp [results, Tryz.results29, go_sem, hzc, hzl]
        rw [HE.out]
        refine ⟨rfl, ?_⟩
        have hB := H2.out.2.2
        repeat (first | with_reducible exact hB | refine Below.setCell ?_ (by simp) _)
      rw [if_neg hl9] at hRR
      try simp only at hRR
      have g3 : ¬ (n : Int) < 9 + (N : Int) := by omega
      have HRR := Lib.hid hRR
      have hn14 : 14 ≤ n := by omega
      obtain rfl : q = 8 := by
        rw [if_pos (by omega)] at hmin; omega
      have hmin9 : (9 : Int) < n := by omega
      clear hA hn hRR hN5 hl9 hmin
      go_upto_region 13 with (first
        | (go_at_call 24
           refine (octNewR (some ⟨ad.block, ad.off + 1, none⟩) 8 (c - 1) l8 _ HRl.out HLL.out (by omega)).mono ?_
           rintro e w1 ⟨p, rfl, ho, hp, hb⟩
           have H1 := Lib.hid (And.intro ho (And.intro hp hb))
           clear ho hp hb)
        | (go_at_call 26
           refine (octRU32D p N l8 _ ⟨0, false⟩ ⟨4, false⟩ _ H1.out.1 HT1.out HN.out HMX.out).mono ?_
           rintro e w2 ⟨rfl, ha⟩
           have hpz : w.heap.size < p := by have := H1.out.2.1; simp at this; omega
           have hbx := (HB0.out.below H1.out.2.2 (by simp)).chg ha.2 (fun e => by have e' : w.heap.size = p := e; omega)
           have hzc := hbx.cell
           have hzf := hbx.free
           have hzl := hbx.lt
           have hbl1 : Below w.heap.size w w1 := HZ.out.trans (H1.out.2.2.mono (by simp))
           have hbl := hbl1.trans (ha.2.below hbl1.size (fun k hk => by have hk' : k = p := hk; omega))
           have H2 := Lib.hid (And.intro ha.1 (And.intro hbx hbl))
           clear ha hbx hbl hbl1))
      obtain ⟨SS, hS⟩ : ∃ SS, val4 ((b.drop 5).take 4) = SS := ⟨_, rfl⟩
      have HS := Lib.hid hS
      have HX1 : Hid (((b.drop 1).take 4).length = 4) := by show _ = _; rw [List.length_take, List.length_drop, HL.out]; omega
      have HX3 : Hid (((b.drop 9).take N).length = N) := by show _ = _; rw [List.length_take, List.length_drop, HL.out]; omega
      have hB9 : tailA (some ad) c 9 = some ⟨ad.block, ad.off + 9, none⟩ := by unfold tailA; rw [if_neg (by omega)]; rfl
      have HR1 : Hid (Rd w w.heap.size (some ⟨ad.block, ad.off + 1, none⟩) (bv ((b.drop 1).take 4))) := by rw [← hB]; exact (HA.out.tail_ (cap := c) 1 (by rw [HL.out]; exact hc)).take_ 4
      have HR3 : Hid (Rd w w.heap.size (some ⟨ad.block, ad.off + 9, none⟩) (bv ((b.drop 9).take N))) := by rw [← hB9]; exact (HA.out.tail_ (cap := c) 9 (by rw [HL.out]; exact hc)).take_ N
      have hsl9 : ∀ W, (Instr.slice 22 (.slice (some ad) n c) (some (.int .i64 9)) (some (.int .i64 (9 + (N : Int)))) none).run Tryz.prog W = .ok (.slice (some ⟨ad.block, ad.off + 9, none⟩) N (c - 9)) W := fun W => by rw [← hB9]; exact run_part2 W (some ad) n c 9 N 9 _ rfl rfl (by omega)
      have hsl1 : ∀ W, (Instr.slice 22 (.slice (some ad) n c) (some (.int .i64 1)) (some (.int .i64 5)) none).run Tryz.prog W = .ok (.slice (some ⟨ad.block, ad.off + 1, none⟩) 4 (c - 1)) W := fun W => by rw [← hB]; exact run_part2 W (some ad) n c 1 4 1 5 rfl rfl (by omega)
      have r9 : IntKind.i64.wrap (9 + (N : Int)) = 9 + (N : Int) := IntWalk.i64_in _ (by omega)
      have hsl9w : ∀ W, (Instr.slice 22 (.slice (some ad) n c) (some (.int .i64 9)) (some (.int .i64 (IntKind.i64.wrap (9 + (N : Int))))) none).run Tryz.prog W = .ok (.slice (some ⟨ad.block, ad.off + 9, none⟩) N (c - 9)) W := fun W => by rw [r9]; exact hsl9 W
      obtain ⟨CC, hCC⟩ : ∃ CC, csum ((b.drop 1).take 4 ++ (b.drop 9).take N) = CC := ⟨_, rfl⟩
      have HCC0 : Hid (crcE (crcE 0 ((b.drop 1).take 4)) ((b.drop 9).take N) = CC) := by show _ = _; rw [csum_app, hCC]
      have HR2 := HRR.out
      rw [hS, hCC] at HR2
      have HR4 := Lib.hid HR2
      clear hS hCC HR2 HRR
      obtain ⟨x1, hx1⟩ : ∃ x1, (b.drop 1).take 4 = x1 := ⟨_, rfl⟩
      obtain ⟨x3, hx3⟩ : ∃ x3, (b.drop 9).take N = x3 := ⟨_, rfl⟩
      have HCC : Hid (crcE (crcE 0 x1) x3 = CC) := by show _ = _; rw [← hx1, ← hx3]; exact HCC0.out
      rw [hx1] at HX1 HR1
      rw [hx3] at HX3 HR3 HR4
      clear hx1 hx3 HCC0
      go_cut [54] (fun s54 wc => s54 = .bool (decide (SS ≠ CC)) ∧ Box wc w.heap.size 33 #[.int .i64 0, .int .i64 0, .int .i64 0, .int .i64 0, .int .i64 0, .string ⟨#[]⟩, .string ⟨#[]⟩] ∧ Below w.heap.size w wc)
      case first =>
        go_region_with (first
          | (go_at_call 26
             refine (octRU32D p SS l8 _ ⟨4, false⟩ ⟨8, false⟩ _ (H2.out.1.below (by first | exact Below.refl _ _ | exact (Below.refl _ _).drew | exact below_drewN (Below.refl _ _) _)) (HT2.out (by omega)) HS.out HMX.out).mono ?_
             rintro e w3 ⟨rfl, ha⟩
             have hc3 : Chg (fun k => k = p) w2 w3 := by first | exact ha.2 | exact ((Chg.refl (fun k => k = p) w2).drew).trans ha.2 | exact ((Chg.refl (fun k => k = p) w2).drewN _).trans ha.2
             have H3 := Lib.hid (And.intro (H2.out.2.1.chg hc3 (fun e => Nat.ne_of_lt hpz e)) (H2.out.2.2.trans (hc3.below (by have := H2.out.2.2.size; omega) (fun k hk => Nat.le_trans (Nat.le_of_lt hpz) (Nat.le_of_eq (Eq.symm hk))))))
             clear ha hc3)
          | (go_at_call 15
             refine (octSum (some ⟨ad.block, ad.off + 1, none⟩) 4 (c - 1) x1 _ ((HR1.out.below H3.out.2).mono H3.out.2.size) HX1.out (by unfold maxLen; omega)).mono ?_
             rintro e w4 ⟨rfl, hb⟩
             have H4 := Lib.hid (And.intro (H3.out.1.below hb H3.out.1.lt) (H3.out.2.trans (hb.mono H3.out.2.size)))
             clear hb)
          | (go_at_call 34
             refine (octExtend (crcE 0 x1) (crcE_lt _ _) (some ⟨ad.block, ad.off + 9, none⟩) N (c - 9) x3 _ ((HR3.out.below H4.out.2).mono H4.out.2.size) HX3.out (by unfold maxLen; omega)).mono ?_
             rintro e w5 ⟨rfl, hb⟩
             rw [HCC.out]
             have H5 := Lib.hid (And.intro (H4.out.1.below hb H4.out.1.lt) (H4.out.2.trans (hb.mono H4.out.2.size)))
             clear hb))
        all_goals
          go_wp2_with fail
          go_meet
          case rel => exact ⟨congrArg Value.bool (by rw [Bool.eq_iff_iff]; simp <;> omega), H5.out.1, H5.out.2⟩
      case rest =>
        obtain ⟨rfl, hbx, hbl⟩ := hcut
        have hzc := hbx.cell
        have hzf := hbx.free
        have hzl := hbx.lt
        have HC := Lib.hid (And.intro hbx hbl)
        clear hbx hbl hsl1 hsl9w r9
        have k1 : (9 : Int) + N ≤ c := by omega
        have k2 : ¬ c = 9 := by omega
        have k3 : 9 < c := by omega
        have k4 : ((9 : Int) + N).toNat = 9 + N := by omega
        have k5 : 9 + N - 9 = N := by omega
        by_cases hsc : SS ≠ CC
        · have HR5 := HR4.out
          rw [if_pos hsc] at HR5
          have HE : Hid (RR = .inl 41) := HR5.symm
          have hd : decide (SS ≠ CC) = true := decide_eq_true hsc
          rw [hd]
          clear hsc hd HR5 HR4
          go_wp2
          refine bodyPost_ret (v := .tuple #[.agg #[.int .i64 0, .int .i64 0, .int .i64 0, .int .i64 0, .int .i64 0, .string ⟨#[]⟩, .string ⟨#[]⟩], .int .i64 0, .int .i64 41]) ?_ rfl ?_
          · simp [results, Tryz.results29, go_sem, hzc, hzl]
          rw [HE.out]
          refine ⟨rfl, ?_⟩
          have hB := HC.out.2
          repeat (first | with_reducible exact hB | refine Below.setCell ?_ (by simp) _)
        have HR5 := HR4.out
        rw [if_neg hsc] at HR5
        have hd : decide (SS ≠ CC) = false := decide_eq_false hsc
        rw [hd]
        have HRD := Lib.hid (readRec_any (some ⟨ad.block, ad.off + 9, none⟩) N (c - 9) x3 wc ((HR3.out.below HC.out.2).mono HC.out.2.size) HX3.out (by omega))
        cases hrb : readB x3 with
        | none =>
          rw [hrb] at HR5 HRD
          have HE : Hid (RR = .inl 41) := HR5.symm
          clear hsc hd HR5 HR4 hrb
          go_wp2_with (first
            | (go_at_call 49
               refine HRD.out.mono ?_
               rintro e w6 ⟨⟨kd, off, tm, pd, sq, kk, vv, ok, rfl, hok⟩, hb6⟩
               have hb : ok = false := by
                 rcases hok with ⟨h, h2⟩ | ⟨h, h2⟩
                 · first | exact h2 | cases h
                 first | exact h2 | cases h
               subst hb
               have hbx6 := HC.out.1.below hb6 HC.out.1.lt
               have hzc := hbx6.cell
               have hzf := hbx6.free
               have hzl := hbx6.lt
               have hx7 := Box.new w6 33 #[.int .i64 kd, .int .i64 off, .int .i64 tm, .int .i64 pd, .int .i64 sq, .string ⟨kk.toArray⟩, .string ⟨vv.toArray⟩]
               have hxc := hx7.cell
               have hxf := hx7.free
               have hxl := hx7.lt
               have H6 := Lib.hid (And.intro (HC.out.2.trans (hb6.mono HC.out.2.size)) hok)
               clear hbx6 hx7 hb6 hok))
          refine bodyPost_ret (v := .tuple #[.agg #[.int .i64 0, .int .i64 0, .int .i64 0, .int .i64 0, .int .i64 0, .string ⟨#[]⟩, .string ⟨#[]⟩], .int .i64 0, .int .i64 41]) ?_ rfl ?_
          · simp [results, Tryz.results29, go_sem, hzc, hzl]
          rw [HE.out]
          refine ⟨rfl, ?_⟩
          have hB := H6.out.1
          have hz6 := H6.out.1.size
          first
            | (refine Below.alloc ?_ (by simp [World.setCell]; exact hz6) _
               repeat (first | with_reducible exact hB | refine Below.setCell ?_ (by simp) _))
            | (have hB2 := hB.alloc hz6 (.cells #[.int .i64 kd, .int .i64 off, .int .i64 tm, .int .i64 pd, .int .i64 sq, .string ⟨kk.toArray⟩, .string ⟨vv.toArray⟩] 33)
               repeat (first | with_reducible exact hB2 | refine Below.setCell ?_ (by simp) _))
        | some r =>
          rw [hrb] at HR5 HRD
          have HE : Hid (RR = .inr (r, 9 + N)) := HR5.symm
          clear hsc hd HR5 HR4 hrb
          go_wp2_with (first
            | (go_at_call 49
               refine HRD.out.mono ?_
               rintro e w6 ⟨⟨kd, off, tm, pd, sq, kk, vv, ok, rfl, hok⟩, hb6⟩
               have hb : ok = true := by
                 rcases hok with ⟨h, h2⟩ | ⟨h, h2⟩
                 · first | exact h2 | cases h
                 first | exact h2 | cases h
               subst hb
               have hbx6 := HC.out.1.below hb6 HC.out.1.lt
               have hzc := hbx6.cell
               have hzf := hbx6.free
               have hzl := hbx6.lt
               have hx7 := Box.new w6 33 #[.int .i64 kd, .int .i64 off, .int .i64 tm, .int .i64 pd, .int .i64 sq, .string ⟨kk.toArray⟩, .string ⟨vv.toArray⟩]
               have hxc := hx7.cell
               have hxf := hx7.free
               have hxl := hx7.lt
               have H6 := Lib.hid (And.intro (HC.out.2.trans (hb6.mono HC.out.2.size)) hok)
               clear hbx6 hx7 hb6 hok))
          refine bodyPost_ret (v := .tuple #[.agg #[.int .i64 kd, .int .i64 off, .int .i64 tm, .int .i64 pd, .int .i64 sq, .string ⟨kk.toArray⟩, .string ⟨vv.toArray⟩], .int .i64 (9 + (N : Int)), .int .i64 0]) ?_ rfl ?_
          · simp [results, Tryz.results29, go_sem, hzc, hzl]
          have hr : r = ⟨kd, off, tm, pd, sq, kk, vv⟩ := by
            rcases H6.out.2 with ⟨h, _⟩ | ⟨h, _⟩
            · cases h
            exact Option.some.inj h
          subst hr
          have e9 : ((9 + N : Nat) : Int) = 9 + (N : Int) := by omega
          rw [HE.out]
          refine ⟨by simp only [DRv, recV, e9], ?_⟩
          have hB := H6.out.1
          have hz6 := H6.out.1.size
          first
            | (refine Below.alloc ?_ (by simp [World.setCell]; exact hz6) _
               repeat (first | with_reducible exact hB | refine Below.setCell ?_ (by simp) _))
            | (have hB2 := hB.alloc hz6 (.cells #[.int .i64 kd, .int .i64 off, .int .i64 tm, .int .i64 pd, .int .i64 sq, .string ⟨kk.toArray⟩, .string ⟨vv.toArray⟩] 33)
               repeat (first | with_reducible exact hB2 | refine Below.setCell ?_ (by simp) _))
    rw [if_pos h169] at hRR
    have HE : Hid (RR = .inl 41) := hRR.symm
    have hne : y0.toNat ≠ 169 := fun h => h169 (UInt8.toNat_inj.1 h)
    clear hb0 p0 h169 hRR hA hn
    generalize y0.toNat = yy at *
    have hne' : ((yy : Int) == 169) = false := by simp; omega
    have hne2 : (yy == 169) = false := by simpa using hne
    clear hne
    go_wp2
    refine bodyPost_ret (v := .tuple #[.agg #[.int .i64 0, .int .i64 0, .int .i64 0, .int .i64 0, .int .i64 0, .string ⟨#[]⟩, .string ⟨#[]⟩], .int .i64 0, .int .i64 41]) ?_ rfl ?_
    · simp [results, Tryz.results29, go_sem]
    rw [HE.out]
    refine ⟨rfl, ?_⟩
    have hB := HZ.out
    repeat (first | with_reducible exact hB | refine Below.setCell ?_ (by simp) _)
end Go.Proofs.YtmhlgbpgdhhfnaaGreat
