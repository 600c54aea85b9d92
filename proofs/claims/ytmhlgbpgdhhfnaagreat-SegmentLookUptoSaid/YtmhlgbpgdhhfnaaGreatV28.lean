import Derived.Test.YtmhlgbpgdhhfnaaGreatV26
set_option linter.unusedVariables false
set_option linter.unusedSimpArgs false
namespace Go.Proofs.YtmhlgbpgdhhfnaaGreat
open Go.RowKit Go.Maps Sqz

set_option maxRecDepth 100000 in
set_option maxHeartbeats 16000000 in
theorem readQ_1 (A : Option Addr) (n c : Nat) (b : List UInt8) (w : World) (hA : Rd w w.heap.size A (bv b)) (hn : b.length = n) (hmx : n ≤ 4096) (f1 o1 t1 p1 q1 : Nat) (k1 v1 : List UInt8) (s1 s2 s3 s4 s5 s6 s7 : RSt) (hs1 : byS b ⟨0, false⟩ = (f1, s1)) (hs2 : uvS b s1 = (o1, s2)) (hs3 : uvS b s2 = (t1, s3)) (hs4 : uvS b s3 = (p1, s4)) (hs5 : uvS b s4 = (q1, s5)) (hs6 : txS 64 b s5 = (k1, s6)) (hs7 : rawS b s6 = (v1, s7)) (hc : 4 ≤ f1) :
    Calls Tryz.prog 18 #[.slice A n c] w fun e w' => e = .returned (.agg #[.int .i64 (rdR b).kind, .int .i64 (rdR b).off, .int .i64 (rdR b).time, .int .i64 (rdR b).pid, .int .i64 (rdR b).seq, .string ⟨(rdR b).key.toArray⟩, .string ⟨(rdR b).val.toArray⟩]) ∧ Below w.heap.size w w' := by
  have HAZ : Hid (Rd (w.alloc (.cells #[.int .i64 0, .int .i64 0, .int .i64 0, .int .i64 0, .int .i64 0, .string ⟨#[]⟩, .string ⟨#[]⟩] 33)) (w.alloc (.cells #[.int .i64 0, .int .i64 0, .int .i64 0, .int .i64 0, .int .i64 0, .string ⟨#[]⟩, .string ⟨#[]⟩] 33)).heap.size A (bv b)) := by
    have hb : Below w.heap.size w (w.alloc (.cells #[.int .i64 0, .int .i64 0, .int .i64 0, .int .i64 0, .int .i64 0, .string ⟨#[]⟩, .string ⟨#[]⟩] 33)) := (Below.refl _ _).alloc (Nat.le_refl _) _
    exact (hA.below hb).mono hb.size
  have HL := Lib.hid hn
  have Hmx : Hid (b.length ≤ 140737488355328) := by show _ ≤ _; omega
  have hf8 : f1 < 256 := by have := byS_lt b ⟨0, false⟩; rw [hs1] at this; exact this
  have hRD : rdR b = ⟨if f1 % 2 = 1 then 2 else 1, wrap64 o1, wrap64 t1, wrap64 p1, wrap64 q1, k1, if f1 / 2 % 2 = 1 then (decR v1).getD [] else v1⟩ := by
    unfold rdR partsR; simp only [hs1, hs2, hs3, if_pos hc, hs4, hs5, hs6, hs7]; first | rfl | (rw [i64_0]; rfl)
  have ha6 : s6.at_ ≤ n := by
    rw [← hn]
    have e1 := byS_at b ⟨0, false⟩ (Nat.zero_le _)
    rw [hs1] at e1
    have e2 := (uvS_le (l := b) (s := s1) e1).1
    rw [hs2] at e2
    have e3 := (uvS_le (l := b) (s := s2) e2).1
    rw [hs3] at e3
    have e4 := (uvS_le (l := b) (s := s3) e3).1
    rw [hs4] at e4
    have e5 := (uvS_le (l := b) (s := s4) e4).1
    rw [hs5] at e5
    have := (txS_le (most := 64) (l := b) (s := s5) e5).1
    rw [hs6] at this; exact this
  obtain ⟨a6, ha6e⟩ : ∃ a6, s6.at_ = a6 := ⟨_, rfl⟩
  rw [ha6e] at ha6
  have HA6 := Lib.hid ha6e
  obtain ⟨m, hm⟩ : ∃ m, v1.length = m := ⟨_, rfl⟩
  have hml : m ≤ n := by
    rw [← hm, ← hn]
    have h := hs7
    unfold rawS at h
    split at h
    · injection h with h1 _; rw [← h1]; simp
    injection h with h1 _; rw [← h1]; simp
  have HM := Lib.hid hm
  have HS7 : Hid (tkS (n - a6) b s6 = (v1, s7)) := by
    show _ = _
    rw [← hs7, rawS_tk (by rw [ha6e, hn]; exact ha6), ha6e, hn]
  have HS1 := Lib.hid hs1
  have HS2 := Lib.hid hs2
  have HS3 := Lib.hid hs3
  have HS4 := Lib.hid hs4
  have HS5 := Lib.hid hs5
  have HS6 := Lib.hid hs6
  have hc' : (4 : Int) ≤ f1 := by omega
  clear hA hn hm ha6e hs1 hs2 hs3 hs4 hs5 hs6 hs7 hc
  go_enter Tryz.func18, Tryz.ntmps18
  by_cases ht : f1 % 2 = 1
  · rw [if_pos ht] at hRD
    have ht' : (f1 : Int) % 2 = 1 := by omega
    clear ht
    by_cases hq : f1 / 2 % 2 = 1
    · rw [if_pos hq] at hRD
      have hq' : (f1 : Int) / 2 % 2 = 1 := by omega
      clear hq
      cases hdc : decR v1 with
      | none =>
        rw [hdc] at hRD
        have HE : Hid (rdR b = ⟨2, wrap64 o1, wrap64 t1, wrap64 p1, wrap64 q1, k1, []⟩) := hRD
        have HDEC := Lib.hid hdc
        clear hRD hdc
        go_upto_region 17 with (first
          | (go_at_call 36
             refine (refNewR A n c b _ HAZ.out HL.out (by omega)).mono ?_
             rintro e w1 ⟨p, rfl, ho, hp, hb⟩
             have hpz : w.heap.size < p := by simp at hp; omega
             have T1 : True := trivial
             have hzb : Box w1 w.heap.size 33 #[.int .i64 0, .int .i64 0, .int .i64 0, .int .i64 0, .int .i64 0, .string ⟨#[]⟩, .string ⟨#[]⟩] := (Box.new w _ _).below hb (by simp)
             have hbw1 : Below w.heap.size w w1 := ((Below.refl _ _).alloc (Nat.le_refl _) _).trans (hb.mono (by simp))
             have K : QB w (w1.alloc (.cells #[.int .i64 1, .int .i64 0, .int .i64 0, .int .i64 0, .int .i64 0, .string ⟨#[]⟩, .string ⟨#[]⟩] 33)) w.heap.size p w1.heap.size b ⟨0, false⟩ #[.int .i64 1, .int .i64 0, .int .i64 0, .int .i64 0, .int .i64 0, .string ⟨#[]⟩, .string ⟨#[]⟩] :=
               ⟨ho.below ((Below.refl _ _).alloc (Nat.le_refl _) _), hzb.alloc _, Box.new w1 _ _, hbw1.alloc (by have := ho.lt; omega) _, rfl, hpz, ho.lt⟩
             have hxc := K.bq.cell
             have hxf := K.bq.free
             have hxl := K.bq.lt
             have hzc := K.bz.cell
             have hzf := K.bz.free
             have hzl := K.bz.lt
             have HK1 := Lib.hid K
             clear ho hp hb hzb hbw1 K)
          | (go_at_call 37
             refine (refByteD p f1 b ⟨0, false⟩ s1 _ HK1.out.ord HS1.out Hmx.out).mono ?_
             rintro e w2 ⟨rfl, ha⟩
             have K := HK1.out.next ha
             have hxc := K.bq.cell
             have hxf := K.bq.free
             have hxl := K.bq.lt
             have hzc := K.bz.cell
             have hzf := K.bz.free
             have hzl := K.bz.lt
             have HK2 := Lib.hid K
             clear ha K)
          | (go_at_call 38
             have zz := T1
             clear zz
             refine (refUvD p o1 b s1 s2 _ HK2.out.ord HS2.out Hmx.out).mono ?_
             rintro e w3 ⟨rfl, ha⟩
             have K := HK2.out.next ha
             have hxc := K.bq.cell
             have hxf := K.bq.free
             have hxl := K.bq.lt
             have hzc := K.bz.cell
             have hzf := K.bz.free
             have hzl := K.bz.lt
             have HK3 := Lib.hid (K.set 1 (.int .i64 (wrap64 o1)))
             have T2 : True := trivial
             clear ha K HK2 T1)
          | (go_at_call 38
             have zz := T2
             clear zz
             refine (refUvD p t1 b s2 s3 _ HK3.out.ord HS3.out Hmx.out).mono ?_
             rintro e w4 ⟨rfl, ha⟩
             have K := HK3.out.next ha
             have hxc := K.bq.cell
             have hxf := K.bq.free
             have hxl := K.bq.lt
             have hzc := K.bz.cell
             have hzf := K.bz.free
             have hzl := K.bz.lt
             have HK4 := Lib.hid (K.set 2 (.int .i64 (wrap64 t1)))
             have T3 : True := trivial
             clear ha K HK3 T2)
          | (go_at_call 38
             have zz := T3
             clear zz
             refine (refUvD p p1 b s3 s4 _ HK4.out.ord HS4.out Hmx.out).mono ?_
             rintro e w5 ⟨rfl, ha⟩
             have K := HK4.out.next ha
             have hxc := K.bq.cell
             have hxf := K.bq.free
             have hxl := K.bq.lt
             have hzc := K.bz.cell
             have hzf := K.bz.free
             have hzl := K.bz.lt
             have HK5 := Lib.hid (K.set 3 (.int .i64 (wrap64 p1)))
             have T4 : True := trivial
             clear ha K HK4 T3)
          | (go_at_call 38
             have zz := T4
             clear zz
             refine (refUvD p q1 b s4 s5 _ HK5.out.ord HS5.out Hmx.out).mono ?_
             rintro e w6 ⟨rfl, ha⟩
             have K := HK5.out.next ha
             have hxc := K.bq.cell
             have hxf := K.bq.free
             have hxl := K.bq.lt
             have hzc := K.bz.cell
             have hzf := K.bz.free
             have hzl := K.bz.lt
             have HK6 := Lib.hid (K.set 4 (.int .i64 (wrap64 q1)))
             have T5 : True := trivial
             clear ha K HK5 T4)
          | (go_at_call 39
             refine (refTxD p 64 b k1 s5 s6 _ HK6.out.ord HS6.out Hmx.out (by omega)).mono ?_
             rintro e w8 ⟨rfl, ha⟩
             have K := HK6.out.next ha
             have hxc := K.bq.cell
             have hxf := K.bq.free
             have hxl := K.bq.lt
             have hzc := K.bz.cell
             have hzf := K.bz.free
             have hzl := K.bz.lt
             have HK8 := Lib.hid (K.set 5 (.string ⟨k1.toArray⟩))
             clear ha K)
          | (go_at_call 41
             refine (refRestD p n a6 b s6 _ HK8.out.ord HL.out HA6.out (by omega)).mono ?_
             rintro e w9 ⟨rfl, x9, rfl⟩
             rw [show ((n : Int) - a6) = ((n - a6 : Nat) : Int) by omega]
             have HK9 := Lib.hid (HK8.out.on (below_drewN (Below.refl _ _) x9)))
          | (go_at_call 40
             refine (refRaw p (n - a6) m b v1 s6 s7 _ HK9.out.ord HS7.out HM.out (by omega) Hmx.out).mono ?_
             rintro e w10 ⟨vA, vc, rfl, hv, ha⟩
             have K : QB w w10 w.heap.size p w1.heap.size b s7 #[.int .i64 1, .int .i64 (wrap64 o1), .int .i64 (wrap64 t1), .int .i64 (wrap64 p1), .int .i64 (wrap64 q1), .string ⟨k1.toArray⟩, .string ⟨#[]⟩] := by simpa using HK9.out.next ha
             have hxc := K.bq.cell
             have hxf := K.bq.free
             have hxl := K.bq.lt
             have hzc := K.bz.cell
             have hzf := K.bz.free
             have hzl := K.bz.lt
             have hst := run_str (w10.setCell ⟨w1.heap.size, 0, none⟩ (.int .i64 2)) _ vA m vc v1 HM.out ((ownsRow_rd hv).far ⟨w1.heap.size, 0, none⟩ (fun ad e => by have h8 := (hv.lt ad.block (by simp [Value.ownBlock, e])).1; have h9 := HK9.out.bq.lt; show ad.block ≠ w1.heap.size; omega) _)
             have HVW := Lib.hid (((ownsRow_rd hv).far ⟨w1.heap.size, 0, none⟩ (fun ad e => by have h8 := (hv.lt ad.block (by simp [Value.ownBlock, e])).1; have h9 := HK9.out.bq.lt; show ad.block ≠ w1.heap.size; omega) (.int .i64 2)).mono (Nat.le_of_eq (by simp [World.setCell])) : Rd (w10.setCell ⟨w1.heap.size, 0, none⟩ (.int .i64 2)) (w10.setCell ⟨w1.heap.size, 0, none⟩ (.int .i64 2)).heap.size vA (bv v1))
             have HK10 := Lib.hid (K.set 0 (.int .i64 2))
             clear hv ha K)
          | (go_at_call 42
             refine (decodeR_any vA m vc v1 _ HVW.out HM.out (by omega)).mono ?_
             rintro e w12 ⟨hd, hb⟩
             rw [HDEC.out] at hd
             obtain ⟨er, her, rfl⟩ := hd
             have hst2 := run_str w12 _ none 0 0 [] rfl (Rd.nil w12 0 none)
             have K : QB w w12 w.heap.size p w1.heap.size b s7 #[.int .i64 2, .int .i64 (wrap64 o1), .int .i64 (wrap64 t1), .int .i64 (wrap64 p1), .int .i64 (wrap64 q1), .string ⟨k1.toArray⟩, .string ⟨#[]⟩] := by simpa using HK10.out.on hb
             have hxc := K.bq.cell
             have hxf := K.bq.free
             have hxl := K.bq.lt
             have hzc := K.bz.cell
             have hzf := K.bz.free
             have hzl := K.bz.lt
             have HK12 := Lib.hid K
             clear her hb K))
        have HKg := Lib.hid (HK12.out.set 6 (.string ⟨#[]⟩))
        generalize hwg : World.setCell w12 ⟨w1.heap.size, 6, none⟩ _ = wg at HKg ⊢
        clear hwg
        have K : QB w wg w.heap.size p w1.heap.size b s7 #[.int .i64 2, .int .i64 (wrap64 o1), .int .i64 (wrap64 t1), .int .i64 (wrap64 p1), .int .i64 (wrap64 q1), .string ⟨k1.toArray⟩, .string ⟨#[]⟩] := by simpa using HKg.out
        have HKF := Lib.hid K
        have hxc := K.bq.cell
        have hxf := K.bq.free
        have hxl := K.bq.lt
        have hzc := K.bz.cell
        have hzf := K.bz.free
        have hzl := K.bz.lt
        clear K HKg
        go_wp2
        refine bodyPost_ret (v := .agg #[.int .i64 2, .int .i64 (wrap64 o1), .int .i64 (wrap64 t1), .int .i64 (wrap64 p1), .int .i64 (wrap64 q1), .string ⟨k1.toArray⟩, .string ⟨#[]⟩]) ?_ rfl ?_
        · simp [results, Tryz.results18, go_sem, hzc, hzl]
        rw [HE.out]
        refine ⟨rfl, ?_⟩
        have hB := HKF.out.bel
        have hzz := HKF.out.zz
        repeat (first | with_reducible exact hB | refine Below.setCell ?_ (by first | (simp; done) | (have := HKF.out.hz; have := HKF.out.hq; simp; omega)) _)
      | some v =>
        rw [hdc] at hRD
        have HE : Hid (rdR b = ⟨2, wrap64 o1, wrap64 t1, wrap64 p1, wrap64 q1, k1, v⟩) := hRD
        have HDEC := Lib.hid hdc
        clear hRD hdc
        go_upto_region 17 with (first
          | (go_at_call 36
             refine (refNewR A n c b _ HAZ.out HL.out (by omega)).mono ?_
             rintro e w1 ⟨p, rfl, ho, hp, hb⟩
             have hpz : w.heap.size < p := by simp at hp; omega
             have T1 : True := trivial
             have hzb : Box w1 w.heap.size 33 #[.int .i64 0, .int .i64 0, .int .i64 0, .int .i64 0, .int .i64 0, .string ⟨#[]⟩, .string ⟨#[]⟩] := (Box.new w _ _).below hb (by simp)
             have hbw1 : Below w.heap.size w w1 := ((Below.refl _ _).alloc (Nat.le_refl _) _).trans (hb.mono (by simp))
             have K : QB w (w1.alloc (.cells #[.int .i64 1, .int .i64 0, .int .i64 0, .int .i64 0, .int .i64 0, .string ⟨#[]⟩, .string ⟨#[]⟩] 33)) w.heap.size p w1.heap.size b ⟨0, false⟩ #[.int .i64 1, .int .i64 0, .int .i64 0, .int .i64 0, .int .i64 0, .string ⟨#[]⟩, .string ⟨#[]⟩] :=
               ⟨ho.below ((Below.refl _ _).alloc (Nat.le_refl _) _), hzb.alloc _, Box.new w1 _ _, hbw1.alloc (by have := ho.lt; omega) _, rfl, hpz, ho.lt⟩
             have hxc := K.bq.cell
             have hxf := K.bq.free
             have hxl := K.bq.lt
             have hzc := K.bz.cell
             have hzf := K.bz.free
             have hzl := K.bz.lt
             have HK1 := Lib.hid K
             clear ho hp hb hzb hbw1 K)
          | (go_at_call 37
             refine (refByteD p f1 b ⟨0, false⟩ s1 _ HK1.out.ord HS1.out Hmx.out).mono ?_
             rintro e w2 ⟨rfl, ha⟩
             have K := HK1.out.next ha
             have hxc := K.bq.cell
             have hxf := K.bq.free
             have hxl := K.bq.lt
             have hzc := K.bz.cell
             have hzf := K.bz.free
             have hzl := K.bz.lt
             have HK2 := Lib.hid K
             clear ha K)
          | (go_at_call 38
             have zz := T1
             clear zz
             refine (refUvD p o1 b s1 s2 _ HK2.out.ord HS2.out Hmx.out).mono ?_
             rintro e w3 ⟨rfl, ha⟩
             have K := HK2.out.next ha
             have hxc := K.bq.cell
             have hxf := K.bq.free
             have hxl := K.bq.lt
             have hzc := K.bz.cell
             have hzf := K.bz.free
             have hzl := K.bz.lt
             have HK3 := Lib.hid (K.set 1 (.int .i64 (wrap64 o1)))
             have T2 : True := trivial
             clear ha K HK2 T1)
          | (go_at_call 38
             have zz := T2
             clear zz
             refine (refUvD p t1 b s2 s3 _ HK3.out.ord HS3.out Hmx.out).mono ?_
             rintro e w4 ⟨rfl, ha⟩
             have K := HK3.out.next ha
             have hxc := K.bq.cell
             have hxf := K.bq.free
             have hxl := K.bq.lt
             have hzc := K.bz.cell
             have hzf := K.bz.free
             have hzl := K.bz.lt
             have HK4 := Lib.hid (K.set 2 (.int .i64 (wrap64 t1)))
             have T3 : True := trivial
             clear ha K HK3 T2)
          | (go_at_call 38
             have zz := T3
             clear zz
             refine (refUvD p p1 b s3 s4 _ HK4.out.ord HS4.out Hmx.out).mono ?_
             rintro e w5 ⟨rfl, ha⟩
             have K := HK4.out.next ha
             have hxc := K.bq.cell
             have hxf := K.bq.free
             have hxl := K.bq.lt
             have hzc := K.bz.cell
             have hzf := K.bz.free
             have hzl := K.bz.lt
             have HK5 := Lib.hid (K.set 3 (.int .i64 (wrap64 p1)))
             have T4 : True := trivial
             clear ha K HK4 T3)
          | (go_at_call 38
             have zz := T4
             clear zz
             refine (refUvD p q1 b s4 s5 _ HK5.out.ord HS5.out Hmx.out).mono ?_
             rintro e w6 ⟨rfl, ha⟩
             have K := HK5.out.next ha
             have hxc := K.bq.cell
             have hxf := K.bq.free
             have hxl := K.bq.lt
             have hzc := K.bz.cell
             have hzf := K.bz.free
             have hzl := K.bz.lt
             have HK6 := Lib.hid (K.set 4 (.int .i64 (wrap64 q1)))
             have T5 : True := trivial
             clear ha K HK5 T4)
          | (go_at_call 39
             refine (refTxD p 64 b k1 s5 s6 _ HK6.out.ord HS6.out Hmx.out (by omega)).mono ?_
             rintro e w8 ⟨rfl, ha⟩
             have K := HK6.out.next ha
             have hxc := K.bq.cell
             have hxf := K.bq.free
             have hxl := K.bq.lt
             have hzc := K.bz.cell
             have hzf := K.bz.free
             have hzl := K.bz.lt
             have HK8 := Lib.hid (K.set 5 (.string ⟨k1.toArray⟩))
             clear ha K)
          | (go_at_call 41
             refine (refRestD p n a6 b s6 _ HK8.out.ord HL.out HA6.out (by omega)).mono ?_
             rintro e w9 ⟨rfl, x9, rfl⟩
             rw [show ((n : Int) - a6) = ((n - a6 : Nat) : Int) by omega]
             have HK9 := Lib.hid (HK8.out.on (below_drewN (Below.refl _ _) x9)))
          | (go_at_call 40
             refine (refRaw p (n - a6) m b v1 s6 s7 _ HK9.out.ord HS7.out HM.out (by omega) Hmx.out).mono ?_
             rintro e w10 ⟨vA, vc, rfl, hv, ha⟩
             have K : QB w w10 w.heap.size p w1.heap.size b s7 #[.int .i64 1, .int .i64 (wrap64 o1), .int .i64 (wrap64 t1), .int .i64 (wrap64 p1), .int .i64 (wrap64 q1), .string ⟨k1.toArray⟩, .string ⟨#[]⟩] := by simpa using HK9.out.next ha
             have hxc := K.bq.cell
             have hxf := K.bq.free
             have hxl := K.bq.lt
             have hzc := K.bz.cell
             have hzf := K.bz.free
             have hzl := K.bz.lt
             have hst := run_str (w10.setCell ⟨w1.heap.size, 0, none⟩ (.int .i64 2)) _ vA m vc v1 HM.out ((ownsRow_rd hv).far ⟨w1.heap.size, 0, none⟩ (fun ad e => by have h8 := (hv.lt ad.block (by simp [Value.ownBlock, e])).1; have h9 := HK9.out.bq.lt; show ad.block ≠ w1.heap.size; omega) _)
             have HVW := Lib.hid (((ownsRow_rd hv).far ⟨w1.heap.size, 0, none⟩ (fun ad e => by have h8 := (hv.lt ad.block (by simp [Value.ownBlock, e])).1; have h9 := HK9.out.bq.lt; show ad.block ≠ w1.heap.size; omega) (.int .i64 2)).mono (Nat.le_of_eq (by simp [World.setCell])) : Rd (w10.setCell ⟨w1.heap.size, 0, none⟩ (.int .i64 2)) (w10.setCell ⟨w1.heap.size, 0, none⟩ (.int .i64 2)).heap.size vA (bv v1))
             have HK10 := Lib.hid (K.set 0 (.int .i64 2))
             clear hv ha K)
          | (go_at_call 42
             refine (decodeR_any vA m vc v1 _ HVW.out HM.out (by omega)).mono ?_
             rintro e w12 ⟨hd, hb⟩
             rw [HDEC.out] at hd
             obtain ⟨dA, dc, rfl, hd⟩ := hd
             have hst2 := run_str w12 _ dA v.length dc v rfl (ownsRow_rd hd)
             have K : QB w w12 w.heap.size p w1.heap.size b s7 #[.int .i64 2, .int .i64 (wrap64 o1), .int .i64 (wrap64 t1), .int .i64 (wrap64 p1), .int .i64 (wrap64 q1), .string ⟨k1.toArray⟩, .string ⟨#[]⟩] := by simpa using HK10.out.on hb
             have hxc := K.bq.cell
             have hxf := K.bq.free
             have hxl := K.bq.lt
             have hzc := K.bz.cell
             have hzf := K.bz.free
             have hzl := K.bz.lt
             have HK12 := Lib.hid K
             clear hd hb K))
        have HKg := Lib.hid (HK12.out.set 6 (.string ⟨v.toArray⟩))
        generalize hwg : World.setCell w12 ⟨w1.heap.size, 6, none⟩ _ = wg at HKg ⊢
        clear hwg
        have K : QB w wg w.heap.size p w1.heap.size b s7 #[.int .i64 2, .int .i64 (wrap64 o1), .int .i64 (wrap64 t1), .int .i64 (wrap64 p1), .int .i64 (wrap64 q1), .string ⟨k1.toArray⟩, .string ⟨v.toArray⟩] := by simpa using HKg.out
        have HKF := Lib.hid K
        have hxc := K.bq.cell
        have hxf := K.bq.free
        have hxl := K.bq.lt
        have hzc := K.bz.cell
        have hzf := K.bz.free
        have hzl := K.bz.lt
        clear K HKg
        go_wp2
        refine bodyPost_ret (v := .agg #[.int .i64 2, .int .i64 (wrap64 o1), .int .i64 (wrap64 t1), .int .i64 (wrap64 p1), .int .i64 (wrap64 q1), .string ⟨k1.toArray⟩, .string ⟨v.toArray⟩]) ?_ rfl ?_
        · simp [results, Tryz.results18, go_sem, hzc, hzl]
        rw [HE.out]
        refine ⟨rfl, ?_⟩
        have hB := HKF.out.bel
        have hzz := HKF.out.zz
        repeat (first | with_reducible exact hB | refine Below.setCell ?_ (by first | (simp; done) | (have := HKF.out.hz; have := HKF.out.hq; simp; omega)) _)
    rw [if_neg hq] at hRD
    have hq' : (f1 : Int) / 2 % 2 = 0 := by omega
    clear hq
    have HE : Hid (rdR b = ⟨2, wrap64 o1, wrap64 t1, wrap64 p1, wrap64 q1, k1, v1⟩) := hRD
    clear hRD
    go_upto_region 17 with (first
      | (go_at_call 36
         refine (refNewR A n c b _ HAZ.out HL.out (by omega)).mono ?_
         rintro e w1 ⟨p, rfl, ho, hp, hb⟩
         have hpz : w.heap.size < p := by simp at hp; omega
         have T1 : True := trivial
         have hzb : Box w1 w.heap.size 33 #[.int .i64 0, .int .i64 0, .int .i64 0, .int .i64 0, .int .i64 0, .string ⟨#[]⟩, .string ⟨#[]⟩] := (Box.new w _ _).below hb (by simp)
         have hbw1 : Below w.heap.size w w1 := ((Below.refl _ _).alloc (Nat.le_refl _) _).trans (hb.mono (by simp))
         have K : QB w (w1.alloc (.cells #[.int .i64 1, .int .i64 0, .int .i64 0, .int .i64 0, .int .i64 0, .string ⟨#[]⟩, .string ⟨#[]⟩] 33)) w.heap.size p w1.heap.size b ⟨0, false⟩ #[.int .i64 1, .int .i64 0, .int .i64 0, .int .i64 0, .int .i64 0, .string ⟨#[]⟩, .string ⟨#[]⟩] :=
           ⟨ho.below ((Below.refl _ _).alloc (Nat.le_refl _) _), hzb.alloc _, Box.new w1 _ _, hbw1.alloc (by have := ho.lt; omega) _, rfl, hpz, ho.lt⟩
         have hxc := K.bq.cell
         have hxf := K.bq.free
         have hxl := K.bq.lt
         have hzc := K.bz.cell
         have hzf := K.bz.free
         have hzl := K.bz.lt
         have HK1 := Lib.hid K
         clear ho hp hb hzb hbw1 K)
      | (go_at_call 37
         refine (refByteD p f1 b ⟨0, false⟩ s1 _ HK1.out.ord HS1.out Hmx.out).mono ?_
         rintro e w2 ⟨rfl, ha⟩
         have K := HK1.out.next ha
         have hxc := K.bq.cell
         have hxf := K.bq.free
         have hxl := K.bq.lt
         have hzc := K.bz.cell
         have hzf := K.bz.free
         have hzl := K.bz.lt
         have HK2 := Lib.hid K
         clear ha K)
      | (go_at_call 38
         have zz := T1
         clear zz
         refine (refUvD p o1 b s1 s2 _ HK2.out.ord HS2.out Hmx.out).mono ?_
         rintro e w3 ⟨rfl, ha⟩
         have K := HK2.out.next ha
         have hxc := K.bq.cell
         have hxf := K.bq.free
         have hxl := K.bq.lt
         have hzc := K.bz.cell
         have hzf := K.bz.free
         have hzl := K.bz.lt
         have HK3 := Lib.hid (K.set 1 (.int .i64 (wrap64 o1)))
         have T2 : True := trivial
         clear ha K HK2 T1)
      | (go_at_call 38
         have zz := T2
         clear zz
         refine (refUvD p t1 b s2 s3 _ HK3.out.ord HS3.out Hmx.out).mono ?_
         rintro e w4 ⟨rfl, ha⟩
         have K := HK3.out.next ha
         have hxc := K.bq.cell
         have hxf := K.bq.free
         have hxl := K.bq.lt
         have hzc := K.bz.cell
         have hzf := K.bz.free
         have hzl := K.bz.lt
         have HK4 := Lib.hid (K.set 2 (.int .i64 (wrap64 t1)))
         have T3 : True := trivial
         clear ha K HK3 T2)
      | (go_at_call 38
         have zz := T3
         clear zz
         refine (refUvD p p1 b s3 s4 _ HK4.out.ord HS4.out Hmx.out).mono ?_
         rintro e w5 ⟨rfl, ha⟩
         have K := HK4.out.next ha
         have hxc := K.bq.cell
         have hxf := K.bq.free
         have hxl := K.bq.lt
         have hzc := K.bz.cell
         have hzf := K.bz.free
         have hzl := K.bz.lt
         have HK5 := Lib.hid (K.set 3 (.int .i64 (wrap64 p1)))
         have T4 : True := trivial
         clear ha K HK4 T3)
      | (go_at_call 38
         have zz := T4
         clear zz
         refine (refUvD p q1 b s4 s5 _ HK5.out.ord HS5.out Hmx.out).mono ?_
         rintro e w6 ⟨rfl, ha⟩
         have K := HK5.out.next ha
         have hxc := K.bq.cell
         have hxf := K.bq.free
         have hxl := K.bq.lt
         have hzc := K.bz.cell
         have hzf := K.bz.free
         have hzl := K.bz.lt
         have HK6 := Lib.hid (K.set 4 (.int .i64 (wrap64 q1)))
         have T5 : True := trivial
         clear ha K HK5 T4)
      | (go_at_call 39
         refine (refTxD p 64 b k1 s5 s6 _ HK6.out.ord HS6.out Hmx.out (by omega)).mono ?_
         rintro e w8 ⟨rfl, ha⟩
         have K := HK6.out.next ha
         have hxc := K.bq.cell
         have hxf := K.bq.free
         have hxl := K.bq.lt
         have hzc := K.bz.cell
         have hzf := K.bz.free
         have hzl := K.bz.lt
         have HK8 := Lib.hid (K.set 5 (.string ⟨k1.toArray⟩))
         clear ha K)
      | (go_at_call 41
         refine (refRestD p n a6 b s6 _ HK8.out.ord HL.out HA6.out (by omega)).mono ?_
         rintro e w9 ⟨rfl, x9, rfl⟩
         rw [show ((n : Int) - a6) = ((n - a6 : Nat) : Int) by omega]
         have HK9 := Lib.hid (HK8.out.on (below_drewN (Below.refl _ _) x9)))
      | (go_at_call 40
         refine (refRaw p (n - a6) m b v1 s6 s7 _ HK9.out.ord HS7.out HM.out (by omega) Hmx.out).mono ?_
         rintro e w10 ⟨vA, vc, rfl, hv, ha⟩
         have K : QB w w10 w.heap.size p w1.heap.size b s7 #[.int .i64 1, .int .i64 (wrap64 o1), .int .i64 (wrap64 t1), .int .i64 (wrap64 p1), .int .i64 (wrap64 q1), .string ⟨k1.toArray⟩, .string ⟨#[]⟩] := by simpa using HK9.out.next ha
         have hxc := K.bq.cell
         have hxf := K.bq.free
         have hxl := K.bq.lt
         have hzc := K.bz.cell
         have hzf := K.bz.free
         have hzl := K.bz.lt
         have hst := run_str (w10.setCell ⟨w1.heap.size, 0, none⟩ (.int .i64 2)) _ vA m vc v1 HM.out ((ownsRow_rd hv).far ⟨w1.heap.size, 0, none⟩ (fun ad e => by have h8 := (hv.lt ad.block (by simp [Value.ownBlock, e])).1; have h9 := HK9.out.bq.lt; show ad.block ≠ w1.heap.size; omega) _)
         have HVW := Lib.hid (((ownsRow_rd hv).far ⟨w1.heap.size, 0, none⟩ (fun ad e => by have h8 := (hv.lt ad.block (by simp [Value.ownBlock, e])).1; have h9 := HK9.out.bq.lt; show ad.block ≠ w1.heap.size; omega) (.int .i64 2)).mono (Nat.le_of_eq (by simp [World.setCell])) : Rd (w10.setCell ⟨w1.heap.size, 0, none⟩ (.int .i64 2)) (w10.setCell ⟨w1.heap.size, 0, none⟩ (.int .i64 2)).heap.size vA (bv v1))
         have HK10 := Lib.hid (K.set 0 (.int .i64 2))
         clear hv ha K))
    have HKg := Lib.hid (HK10.out.set 6 (.string ⟨v1.toArray⟩))
    generalize hwg : World.setCell (w10.setCell ⟨w1.heap.size, 0, none⟩ (.int .i64 2)) ⟨w1.heap.size, 6, none⟩ _ = wg at HKg ⊢
    clear hwg
    have K : QB w wg w.heap.size p w1.heap.size b s7 #[.int .i64 2, .int .i64 (wrap64 o1), .int .i64 (wrap64 t1), .int .i64 (wrap64 p1), .int .i64 (wrap64 q1), .string ⟨k1.toArray⟩, .string ⟨v1.toArray⟩] := by simpa using HKg.out
    have HKF := Lib.hid K
    have hxc := K.bq.cell
    have hxf := K.bq.free
    have hxl := K.bq.lt
    have hzc := K.bz.cell
    have hzf := K.bz.free
    have hzl := K.bz.lt
    clear K HKg
    go_wp2
    refine bodyPost_ret (v := .agg #[.int .i64 2, .int .i64 (wrap64 o1), .int .i64 (wrap64 t1), .int .i64 (wrap64 p1), .int .i64 (wrap64 q1), .string ⟨k1.toArray⟩, .string ⟨v1.toArray⟩]) ?_ rfl ?_
    · simp [results, Tryz.results18, go_sem, hzc, hzl]
    rw [HE.out]
    refine ⟨rfl, ?_⟩
    have hB := HKF.out.bel
    have hzz := HKF.out.zz
    repeat (first | with_reducible exact hB | refine Below.setCell ?_ (by first | (simp; done) | (have := HKF.out.hz; have := HKF.out.hq; simp; omega)) _)
  rw [if_neg ht] at hRD
  have ht' : (f1 : Int) % 2 = 0 := by omega
  clear ht
  by_cases hq : f1 / 2 % 2 = 1
  · rw [if_pos hq] at hRD
    have hq' : (f1 : Int) / 2 % 2 = 1 := by omega
    clear hq
    cases hdc : decR v1 with
    | none =>
      rw [hdc] at hRD
      have HE : Hid (rdR b = ⟨1, wrap64 o1, wrap64 t1, wrap64 p1, wrap64 q1, k1, []⟩) := hRD
      have HDEC := Lib.hid hdc
      clear hRD hdc
      go_upto_region 17 with (first
        | (go_at_call 36
           refine (refNewR A n c b _ HAZ.out HL.out (by omega)).mono ?_
           rintro e w1 ⟨p, rfl, ho, hp, hb⟩
           have hpz : w.heap.size < p := by simp at hp; omega
           have T1 : True := trivial
           have hzb : Box w1 w.heap.size 33 #[.int .i64 0, .int .i64 0, .int .i64 0, .int .i64 0, .int .i64 0, .string ⟨#[]⟩, .string ⟨#[]⟩] := (Box.new w _ _).below hb (by simp)
           have hbw1 : Below w.heap.size w w1 := ((Below.refl _ _).alloc (Nat.le_refl _) _).trans (hb.mono (by simp))
           have K : QB w (w1.alloc (.cells #[.int .i64 1, .int .i64 0, .int .i64 0, .int .i64 0, .int .i64 0, .string ⟨#[]⟩, .string ⟨#[]⟩] 33)) w.heap.size p w1.heap.size b ⟨0, false⟩ #[.int .i64 1, .int .i64 0, .int .i64 0, .int .i64 0, .int .i64 0, .string ⟨#[]⟩, .string ⟨#[]⟩] :=
             ⟨ho.below ((Below.refl _ _).alloc (Nat.le_refl _) _), hzb.alloc _, Box.new w1 _ _, hbw1.alloc (by have := ho.lt; omega) _, rfl, hpz, ho.lt⟩
           have hxc := K.bq.cell
           have hxf := K.bq.free
           have hxl := K.bq.lt
           have hzc := K.bz.cell
           have hzf := K.bz.free
           have hzl := K.bz.lt
           have HK1 := Lib.hid K
           clear ho hp hb hzb hbw1 K)
        | (go_at_call 37
           refine (refByteD p f1 b ⟨0, false⟩ s1 _ HK1.out.ord HS1.out Hmx.out).mono ?_
           rintro e w2 ⟨rfl, ha⟩
           have K := HK1.out.next ha
           have hxc := K.bq.cell
           have hxf := K.bq.free
           have hxl := K.bq.lt
           have hzc := K.bz.cell
           have hzf := K.bz.free
           have hzl := K.bz.lt
           have HK2 := Lib.hid K
           clear ha K)
        | (go_at_call 38
           have zz := T1
           clear zz
           refine (refUvD p o1 b s1 s2 _ HK2.out.ord HS2.out Hmx.out).mono ?_
           rintro e w3 ⟨rfl, ha⟩
           have K := HK2.out.next ha
           have hxc := K.bq.cell
           have hxf := K.bq.free
           have hxl := K.bq.lt
           have hzc := K.bz.cell
           have hzf := K.bz.free
           have hzl := K.bz.lt
           have HK3 := Lib.hid (K.set 1 (.int .i64 (wrap64 o1)))
           have T2 : True := trivial
           clear ha K HK2 T1)
        | (go_at_call 38
           have zz := T2
           clear zz
           refine (refUvD p t1 b s2 s3 _ HK3.out.ord HS3.out Hmx.out).mono ?_
           rintro e w4 ⟨rfl, ha⟩
           have K := HK3.out.next ha
           have hxc := K.bq.cell
           have hxf := K.bq.free
           have hxl := K.bq.lt
           have hzc := K.bz.cell
           have hzf := K.bz.free
           have hzl := K.bz.lt
           have HK4 := Lib.hid (K.set 2 (.int .i64 (wrap64 t1)))
           have T3 : True := trivial
           clear ha K HK3 T2)
        | (go_at_call 38
           have zz := T3
           clear zz
           refine (refUvD p p1 b s3 s4 _ HK4.out.ord HS4.out Hmx.out).mono ?_
           rintro e w5 ⟨rfl, ha⟩
           have K := HK4.out.next ha
           have hxc := K.bq.cell
           have hxf := K.bq.free
           have hxl := K.bq.lt
           have hzc := K.bz.cell
           have hzf := K.bz.free
           have hzl := K.bz.lt
           have HK5 := Lib.hid (K.set 3 (.int .i64 (wrap64 p1)))
           have T4 : True := trivial
           clear ha K HK4 T3)
        | (go_at_call 38
           have zz := T4
           clear zz
           refine (refUvD p q1 b s4 s5 _ HK5.out.ord HS5.out Hmx.out).mono ?_
           rintro e w6 ⟨rfl, ha⟩
           have K := HK5.out.next ha
           have hxc := K.bq.cell
           have hxf := K.bq.free
           have hxl := K.bq.lt
           have hzc := K.bz.cell
           have hzf := K.bz.free
           have hzl := K.bz.lt
           have HK6 := Lib.hid (K.set 4 (.int .i64 (wrap64 q1)))
           have T5 : True := trivial
           clear ha K HK5 T4)
        | (go_at_call 39
           refine (refTxD p 64 b k1 s5 s6 _ HK6.out.ord HS6.out Hmx.out (by omega)).mono ?_
           rintro e w8 ⟨rfl, ha⟩
           have K := HK6.out.next ha
           have hxc := K.bq.cell
           have hxf := K.bq.free
           have hxl := K.bq.lt
           have hzc := K.bz.cell
           have hzf := K.bz.free
           have hzl := K.bz.lt
           have HK8 := Lib.hid (K.set 5 (.string ⟨k1.toArray⟩))
           clear ha K)
        | (go_at_call 41
           refine (refRestD p n a6 b s6 _ HK8.out.ord HL.out HA6.out (by omega)).mono ?_
           rintro e w9 ⟨rfl, x9, rfl⟩
           rw [show ((n : Int) - a6) = ((n - a6 : Nat) : Int) by omega]
           have HK9 := Lib.hid (HK8.out.on (below_drewN (Below.refl _ _) x9)))
        | (go_at_call 40
           refine (refRaw p (n - a6) m b v1 s6 s7 _ HK9.out.ord HS7.out HM.out (by omega) Hmx.out).mono ?_
           rintro e w10 ⟨vA, vc, rfl, hv, ha⟩
           have K : QB w w10 w.heap.size p w1.heap.size b s7 #[.int .i64 1, .int .i64 (wrap64 o1), .int .i64 (wrap64 t1), .int .i64 (wrap64 p1), .int .i64 (wrap64 q1), .string ⟨k1.toArray⟩, .string ⟨#[]⟩] := by simpa using HK9.out.next ha
           have hxc := K.bq.cell
           have hxf := K.bq.free
           have hxl := K.bq.lt
           have hzc := K.bz.cell
           have hzf := K.bz.free
           have hzl := K.bz.lt
           have hst := run_str w10 _ vA m vc v1 HM.out (ownsRow_rd hv)
           have HVW := Lib.hid (ownsRow_rd hv)
           have HK10 := Lib.hid (K)
           clear hv ha K)
        | (go_at_call 42
           refine (decodeR_any vA m vc v1 _ HVW.out HM.out (by omega)).mono ?_
           rintro e w12 ⟨hd, hb⟩
           rw [HDEC.out] at hd
           obtain ⟨er, her, rfl⟩ := hd
           have hst2 := run_str w12 _ none 0 0 [] rfl (Rd.nil w12 0 none)
           have K : QB w w12 w.heap.size p w1.heap.size b s7 #[.int .i64 1, .int .i64 (wrap64 o1), .int .i64 (wrap64 t1), .int .i64 (wrap64 p1), .int .i64 (wrap64 q1), .string ⟨k1.toArray⟩, .string ⟨#[]⟩] := by simpa using HK10.out.on hb
           have hxc := K.bq.cell
           have hxf := K.bq.free
           have hxl := K.bq.lt
           have hzc := K.bz.cell
           have hzf := K.bz.free
           have hzl := K.bz.lt
           have HK12 := Lib.hid K
           clear her hb K))
      have HKg := Lib.hid (HK12.out.set 6 (.string ⟨#[]⟩))
      generalize hwg : World.setCell w12 ⟨w1.heap.size, 6, none⟩ _ = wg at HKg ⊢
      clear hwg
      have K : QB w wg w.heap.size p w1.heap.size b s7 #[.int .i64 1, .int .i64 (wrap64 o1), .int .i64 (wrap64 t1), .int .i64 (wrap64 p1), .int .i64 (wrap64 q1), .string ⟨k1.toArray⟩, .string ⟨#[]⟩] := by simpa using HKg.out
      have HKF := Lib.hid K
      have hxc := K.bq.cell
      have hxf := K.bq.free
      have hxl := K.bq.lt
      have hzc := K.bz.cell
      have hzf := K.bz.free
      have hzl := K.bz.lt
      clear K HKg
      go_wp2
      refine bodyPost_ret (v := .agg #[.int .i64 1, .int .i64 (wrap64 o1), .int .i64 (wrap64 t1), .int .i64 (wrap64 p1), .int .i64 (wrap64 q1), .string ⟨k1.toArray⟩, .string ⟨#[]⟩]) ?_ rfl ?_
      · simp [results, Tryz.results18, go_sem, hzc, hzl]
      rw [HE.out]
      refine ⟨rfl, ?_⟩
      have hB := HKF.out.bel
      have hzz := HKF.out.zz
      repeat (first | with_reducible exact hB | refine Below.setCell ?_ (by first | (simp; done) | (have := HKF.out.hz; have := HKF.out.hq; simp; omega)) _)
    | some v =>
      rw [hdc] at hRD
      have HE : Hid (rdR b = ⟨1, wrap64 o1, wrap64 t1, wrap64 p1, wrap64 q1, k1, v⟩) := hRD
      have HDEC := Lib.hid hdc
      clear hRD hdc
      go_upto_region 17 with (first
        | (go_at_call 36
           refine (refNewR A n c b _ HAZ.out HL.out (by omega)).mono ?_
           rintro e w1 ⟨p, rfl, ho, hp, hb⟩
           have hpz : w.heap.size < p := by simp at hp; omega
           have T1 : True := trivial
           have hzb : Box w1 w.heap.size 33 #[.int .i64 0, .int .i64 0, .int .i64 0, .int .i64 0, .int .i64 0, .string ⟨#[]⟩, .string ⟨#[]⟩] := (Box.new w _ _).below hb (by simp)
           have hbw1 : Below w.heap.size w w1 := ((Below.refl _ _).alloc (Nat.le_refl _) _).trans (hb.mono (by simp))
           have K : QB w (w1.alloc (.cells #[.int .i64 1, .int .i64 0, .int .i64 0, .int .i64 0, .int .i64 0, .string ⟨#[]⟩, .string ⟨#[]⟩] 33)) w.heap.size p w1.heap.size b ⟨0, false⟩ #[.int .i64 1, .int .i64 0, .int .i64 0, .int .i64 0, .int .i64 0, .string ⟨#[]⟩, .string ⟨#[]⟩] :=
             ⟨ho.below ((Below.refl _ _).alloc (Nat.le_refl _) _), hzb.alloc _, Box.new w1 _ _, hbw1.alloc (by have := ho.lt; omega) _, rfl, hpz, ho.lt⟩
           have hxc := K.bq.cell
           have hxf := K.bq.free
           have hxl := K.bq.lt
           have hzc := K.bz.cell
           have hzf := K.bz.free
           have hzl := K.bz.lt
           have HK1 := Lib.hid K
           clear ho hp hb hzb hbw1 K)
        | (go_at_call 37
           refine (refByteD p f1 b ⟨0, false⟩ s1 _ HK1.out.ord HS1.out Hmx.out).mono ?_
           rintro e w2 ⟨rfl, ha⟩
           have K := HK1.out.next ha
           have hxc := K.bq.cell
           have hxf := K.bq.free
           have hxl := K.bq.lt
           have hzc := K.bz.cell
           have hzf := K.bz.free
           have hzl := K.bz.lt
           have HK2 := Lib.hid K
           clear ha K)
        | (go_at_call 38
           have zz := T1
           clear zz
           refine (refUvD p o1 b s1 s2 _ HK2.out.ord HS2.out Hmx.out).mono ?_
           rintro e w3 ⟨rfl, ha⟩
           have K := HK2.out.next ha
           have hxc := K.bq.cell
           have hxf := K.bq.free
           have hxl := K.bq.lt
           have hzc := K.bz.cell
           have hzf := K.bz.free
           have hzl := K.bz.lt
           have HK3 := Lib.hid (K.set 1 (.int .i64 (wrap64 o1)))
           have T2 : True := trivial
           clear ha K HK2 T1)
        | (go_at_call 38
           have zz := T2
           clear zz
           refine (refUvD p t1 b s2 s3 _ HK3.out.ord HS3.out Hmx.out).mono ?_
           rintro e w4 ⟨rfl, ha⟩
           have K := HK3.out.next ha
           have hxc := K.bq.cell
           have hxf := K.bq.free
           have hxl := K.bq.lt
           have hzc := K.bz.cell
           have hzf := K.bz.free
           have hzl := K.bz.lt
           have HK4 := Lib.hid (K.set 2 (.int .i64 (wrap64 t1)))
           have T3 : True := trivial
           clear ha K HK3 T2)
        | (go_at_call 38
           have zz := T3
           clear zz
           refine (refUvD p p1 b s3 s4 _ HK4.out.ord HS4.out Hmx.out).mono ?_
           rintro e w5 ⟨rfl, ha⟩
           have K := HK4.out.next ha
           have hxc := K.bq.cell
           have hxf := K.bq.free
           have hxl := K.bq.lt
           have hzc := K.bz.cell
           have hzf := K.bz.free
           have hzl := K.bz.lt
           have HK5 := Lib.hid (K.set 3 (.int .i64 (wrap64 p1)))
           have T4 : True := trivial
           clear ha K HK4 T3)
        | (go_at_call 38
           have zz := T4
           clear zz
           refine (refUvD p q1 b s4 s5 _ HK5.out.ord HS5.out Hmx.out).mono ?_
           rintro e w6 ⟨rfl, ha⟩
           have K := HK5.out.next ha
           have hxc := K.bq.cell
           have hxf := K.bq.free
           have hxl := K.bq.lt
           have hzc := K.bz.cell
           have hzf := K.bz.free
           have hzl := K.bz.lt
           have HK6 := Lib.hid (K.set 4 (.int .i64 (wrap64 q1)))
           have T5 : True := trivial
           clear ha K HK5 T4)
        | (go_at_call 39
           refine (refTxD p 64 b k1 s5 s6 _ HK6.out.ord HS6.out Hmx.out (by omega)).mono ?_
           rintro e w8 ⟨rfl, ha⟩
           have K := HK6.out.next ha
           have hxc := K.bq.cell
           have hxf := K.bq.free
           have hxl := K.bq.lt
           have hzc := K.bz.cell
           have hzf := K.bz.free
           have hzl := K.bz.lt
           have HK8 := Lib.hid (K.set 5 (.string ⟨k1.toArray⟩))
           clear ha K)
        | (go_at_call 41
           refine (refRestD p n a6 b s6 _ HK8.out.ord HL.out HA6.out (by omega)).mono ?_
           rintro e w9 ⟨rfl, x9, rfl⟩
           rw [show ((n : Int) - a6) = ((n - a6 : Nat) : Int) by omega]
           have HK9 := Lib.hid (HK8.out.on (below_drewN (Below.refl _ _) x9)))
        | (go_at_call 40
           refine (refRaw p (n - a6) m b v1 s6 s7 _ HK9.out.ord HS7.out HM.out (by omega) Hmx.out).mono ?_
           rintro e w10 ⟨vA, vc, rfl, hv, ha⟩
           have K : QB w w10 w.heap.size p w1.heap.size b s7 #[.int .i64 1, .int .i64 (wrap64 o1), .int .i64 (wrap64 t1), .int .i64 (wrap64 p1), .int .i64 (wrap64 q1), .string ⟨k1.toArray⟩, .string ⟨#[]⟩] := by simpa using HK9.out.next ha
           have hxc := K.bq.cell
           have hxf := K.bq.free
           have hxl := K.bq.lt
           have hzc := K.bz.cell
           have hzf := K.bz.free
           have hzl := K.bz.lt
           have hst := run_str w10 _ vA m vc v1 HM.out (ownsRow_rd hv)
           have HVW := Lib.hid (ownsRow_rd hv)
           have HK10 := Lib.hid (K)
           clear hv ha K)
        | (go_at_call 42
           refine (decodeR_any vA m vc v1 _ HVW.out HM.out (by omega)).mono ?_
           rintro e w12 ⟨hd, hb⟩
           rw [HDEC.out] at hd
           obtain ⟨dA, dc, rfl, hd⟩ := hd
           have hst2 := run_str w12 _ dA v.length dc v rfl (ownsRow_rd hd)
           have K : QB w w12 w.heap.size p w1.heap.size b s7 #[.int .i64 1, .int .i64 (wrap64 o1), .int .i64 (wrap64 t1), .int .i64 (wrap64 p1), .int .i64 (wrap64 q1), .string ⟨k1.toArray⟩, .string ⟨#[]⟩] := by simpa using HK10.out.on hb
           have hxc := K.bq.cell
           have hxf := K.bq.free
           have hxl := K.bq.lt
           have hzc := K.bz.cell
           have hzf := K.bz.free
           have hzl := K.bz.lt
           have HK12 := Lib.hid K
           clear hd hb K))
      have HKg := Lib.hid (HK12.out.set 6 (.string ⟨v.toArray⟩))
      generalize hwg : World.setCell w12 ⟨w1.heap.size, 6, none⟩ _ = wg at HKg ⊢
      clear hwg
      have K : QB w wg w.heap.size p w1.heap.size b s7 #[.int .i64 1, .int .i64 (wrap64 o1), .int .i64 (wrap64 t1), .int .i64 (wrap64 p1), .int .i64 (wrap64 q1), .string ⟨k1.toArray⟩, .string ⟨v.toArray⟩] := by simpa using HKg.out
      have HKF := Lib.hid K
      have hxc := K.bq.cell
      have hxf := K.bq.free
      have hxl := K.bq.lt
      have hzc := K.bz.cell
      have hzf := K.bz.free
      have hzl := K.bz.lt
      clear K HKg
      go_wp2
      refine bodyPost_ret (v := .agg #[.int .i64 1, .int .i64 (wrap64 o1), .int .i64 (wrap64 t1), .int .i64 (wrap64 p1), .int .i64 (wrap64 q1), .string ⟨k1.toArray⟩, .string ⟨v.toArray⟩]) ?_ rfl ?_
      · simp [results, Tryz.results18, go_sem, hzc, hzl]
      rw [HE.out]
      refine ⟨rfl, ?_⟩
      have hB := HKF.out.bel
      have hzz := HKF.out.zz
      repeat (first | with_reducible exact hB | refine Below.setCell ?_ (by first | (simp; done) | (have := HKF.out.hz; have := HKF.out.hq; simp; omega)) _)
  rw [if_neg hq] at hRD
  have hq' : (f1 : Int) / 2 % 2 = 0 := by omega
  clear hq
  have HE : Hid (rdR b = ⟨1, wrap64 o1, wrap64 t1, wrap64 p1, wrap64 q1, k1, v1⟩) := hRD
  clear hRD
  go_upto_region 17 with (first
    | (go_at_call 36
       refine (refNewR A n c b _ HAZ.out HL.out (by omega)).mono ?_
       rintro e w1 ⟨p, rfl, ho, hp, hb⟩
       have hpz : w.heap.size < p := by simp at hp; omega
       have T1 : True := trivial
       have hzb : Box w1 w.heap.size 33 #[.int .i64 0, .int .i64 0, .int .i64 0, .int .i64 0, .int .i64 0, .string ⟨#[]⟩, .string ⟨#[]⟩] := (Box.new w _ _).below hb (by simp)
       have hbw1 : Below w.heap.size w w1 := ((Below.refl _ _).alloc (Nat.le_refl _) _).trans (hb.mono (by simp))
       have K : QB w (w1.alloc (.cells #[.int .i64 1, .int .i64 0, .int .i64 0, .int .i64 0, .int .i64 0, .string ⟨#[]⟩, .string ⟨#[]⟩] 33)) w.heap.size p w1.heap.size b ⟨0, false⟩ #[.int .i64 1, .int .i64 0, .int .i64 0, .int .i64 0, .int .i64 0, .string ⟨#[]⟩, .string ⟨#[]⟩] :=
         ⟨ho.below ((Below.refl _ _).alloc (Nat.le_refl _) _), hzb.alloc _, Box.new w1 _ _, hbw1.alloc (by have := ho.lt; omega) _, rfl, hpz, ho.lt⟩
       have hxc := K.bq.cell
       have hxf := K.bq.free
       have hxl := K.bq.lt
       have hzc := K.bz.cell
       have hzf := K.bz.free
       have hzl := K.bz.lt
       have HK1 := Lib.hid K
       clear ho hp hb hzb hbw1 K)
    | (go_at_call 37
       refine (refByteD p f1 b ⟨0, false⟩ s1 _ HK1.out.ord HS1.out Hmx.out).mono ?_
       rintro e w2 ⟨rfl, ha⟩
       have K := HK1.out.next ha
       have hxc := K.bq.cell
       have hxf := K.bq.free
       have hxl := K.bq.lt
       have hzc := K.bz.cell
       have hzf := K.bz.free
       have hzl := K.bz.lt
       have HK2 := Lib.hid K
       clear ha K)
    | (go_at_call 38
       have zz := T1
       clear zz
       refine (refUvD p o1 b s1 s2 _ HK2.out.ord HS2.out Hmx.out).mono ?_
       rintro e w3 ⟨rfl, ha⟩
       have K := HK2.out.next ha
       have hxc := K.bq.cell
       have hxf := K.bq.free
       have hxl := K.bq.lt
       have hzc := K.bz.cell
       have hzf := K.bz.free
       have hzl := K.bz.lt
       have HK3 := Lib.hid (K.set 1 (.int .i64 (wrap64 o1)))
       have T2 : True := trivial
       clear ha K HK2 T1)
    | (go_at_call 38
       have zz := T2
       clear zz
       refine (refUvD p t1 b s2 s3 _ HK3.out.ord HS3.out Hmx.out).mono ?_
       rintro e w4 ⟨rfl, ha⟩
       have K := HK3.out.next ha
       have hxc := K.bq.cell
       have hxf := K.bq.free
       have hxl := K.bq.lt
       have hzc := K.bz.cell
       have hzf := K.bz.free
       have hzl := K.bz.lt
       have HK4 := Lib.hid (K.set 2 (.int .i64 (wrap64 t1)))
       have T3 : True := trivial
       clear ha K HK3 T2)
    | (go_at_call 38
       have zz := T3
       clear zz
       refine (refUvD p p1 b s3 s4 _ HK4.out.ord HS4.out Hmx.out).mono ?_
       rintro e w5 ⟨rfl, ha⟩
       have K := HK4.out.next ha
       have hxc := K.bq.cell
       have hxf := K.bq.free
       have hxl := K.bq.lt
       have hzc := K.bz.cell
       have hzf := K.bz.free
       have hzl := K.bz.lt
       have HK5 := Lib.hid (K.set 3 (.int .i64 (wrap64 p1)))
       have T4 : True := trivial
       clear ha K HK4 T3)
    | (go_at_call 38
       have zz := T4
       clear zz
       refine (refUvD p q1 b s4 s5 _ HK5.out.ord HS5.out Hmx.out).mono ?_
       rintro e w6 ⟨rfl, ha⟩
       have K := HK5.out.next ha
       have hxc := K.bq.cell
       have hxf := K.bq.free
       have hxl := K.bq.lt
       have hzc := K.bz.cell
       have hzf := K.bz.free
       have hzl := K.bz.lt
       have HK6 := Lib.hid (K.set 4 (.int .i64 (wrap64 q1)))
       have T5 : True := trivial
       clear ha K HK5 T4)
    | (go_at_call 39
       refine (refTxD p 64 b k1 s5 s6 _ HK6.out.ord HS6.out Hmx.out (by omega)).mono ?_
       rintro e w8 ⟨rfl, ha⟩
       have K := HK6.out.next ha
       have hxc := K.bq.cell
       have hxf := K.bq.free
       have hxl := K.bq.lt
       have hzc := K.bz.cell
       have hzf := K.bz.free
       have hzl := K.bz.lt
       have HK8 := Lib.hid (K.set 5 (.string ⟨k1.toArray⟩))
       clear ha K)
    | (go_at_call 41
       refine (refRestD p n a6 b s6 _ HK8.out.ord HL.out HA6.out (by omega)).mono ?_
       rintro e w9 ⟨rfl, x9, rfl⟩
       rw [show ((n : Int) - a6) = ((n - a6 : Nat) : Int) by omega]
       have HK9 := Lib.hid (HK8.out.on (below_drewN (Below.refl _ _) x9)))
    | (go_at_call 40
       refine (refRaw p (n - a6) m b v1 s6 s7 _ HK9.out.ord HS7.out HM.out (by omega) Hmx.out).mono ?_
       rintro e w10 ⟨vA, vc, rfl, hv, ha⟩
       have K : QB w w10 w.heap.size p w1.heap.size b s7 #[.int .i64 1, .int .i64 (wrap64 o1), .int .i64 (wrap64 t1), .int .i64 (wrap64 p1), .int .i64 (wrap64 q1), .string ⟨k1.toArray⟩, .string ⟨#[]⟩] := by simpa using HK9.out.next ha
       have hxc := K.bq.cell
       have hxf := K.bq.free
       have hxl := K.bq.lt
       have hzc := K.bz.cell
       have hzf := K.bz.free
       have hzl := K.bz.lt
       have hst := run_str w10 _ vA m vc v1 HM.out (ownsRow_rd hv)
       have HVW := Lib.hid (ownsRow_rd hv)
       have HK10 := Lib.hid (K)
       clear hv ha K))
  have HKg := Lib.hid (HK10.out.set 6 (.string ⟨v1.toArray⟩))
  generalize hwg : World.setCell w10 ⟨w1.heap.size, 6, none⟩ _ = wg at HKg ⊢
  clear hwg
  have K : QB w wg w.heap.size p w1.heap.size b s7 #[.int .i64 1, .int .i64 (wrap64 o1), .int .i64 (wrap64 t1), .int .i64 (wrap64 p1), .int .i64 (wrap64 q1), .string ⟨k1.toArray⟩, .string ⟨v1.toArray⟩] := by simpa using HKg.out
  have HKF := Lib.hid K
  have hxc := K.bq.cell
  have hxf := K.bq.free
  have hxl := K.bq.lt
  have hzc := K.bz.cell
  have hzf := K.bz.free
  have hzl := K.bz.lt
  clear K HKg
  go_wp2
  refine bodyPost_ret (v := .agg #[.int .i64 1, .int .i64 (wrap64 o1), .int .i64 (wrap64 t1), .int .i64 (wrap64 p1), .int .i64 (wrap64 q1), .string ⟨k1.toArray⟩, .string ⟨v1.toArray⟩]) ?_ rfl ?_
  · simp [results, Tryz.results18, go_sem, hzc, hzl]
  rw [HE.out]
  refine ⟨rfl, ?_⟩
  have hB := HKF.out.bel
  have hzz := HKF.out.zz
  repeat (first | with_reducible exact hB | refine Below.setCell ?_ (by first | (simp; done) | (have := HKF.out.hz; have := HKF.out.hq; simp; omega)) _)
end Go.Proofs.YtmhlgbpgdhhfnaaGreat
