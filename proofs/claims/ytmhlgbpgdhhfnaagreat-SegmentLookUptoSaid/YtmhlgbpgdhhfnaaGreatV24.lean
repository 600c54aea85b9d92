import Derived.Test.YtmhlgbpgdhhfnaaGreatV20
set_option linter.unusedVariables false
set_option linter.unusedSimpArgs false
namespace Go.Proofs.YtmhlgbpgdhhfnaaGreat
open Go.RowKit Go.Maps Sqz

set_option maxRecDepth 100000 in
set_option maxHeartbeats 16000000 in
theorem read_11 (A : Option Addr) (n c : Nat) (b : List UInt8) (w : World) (hA : Rd w w.heap.size A (bv b)) (hn : b.length = n) (hmx : n ≤ 4096) (f1 o1 t1 p1 q1 : Nat) (k1 v1 : List UInt8) (s1 s2 s3 s4 s5 s6 s7 : RSt) (hs1 : byS b ⟨0, false⟩ = (f1, s1)) (hs2 : nmS b s1 = (o1, s2)) (hs3 : nmS b s2 = (t1, s3)) (hs4 : nmS b s3 = (p1, s4)) (hs5 : nmS b s4 = (q1, s5)) (hs6 : txS 64 b s5 = (k1, s6)) (hs7 : rawS b s6 = (v1, s7))
    (ht : f1 % 2 = 1) (hc : f1 / 4 % 2 = 1) :
    Calls Tryz.prog 49 #[.slice A n c] w fun e w' => RcA (readB b) e ∧ Below w.heap.size w w' := by
  have hfl0 := field0
  have HAZ : Hid (Rd (w.alloc (.cells #[.int .i64 0, .int .i64 0, .int .i64 0, .int .i64 0, .int .i64 0, .string ⟨#[]⟩, .string ⟨#[]⟩] 33)) (w.alloc (.cells #[.int .i64 0, .int .i64 0, .int .i64 0, .int .i64 0, .int .i64 0, .string ⟨#[]⟩, .string ⟨#[]⟩] 33)).heap.size A (bv b)) := by
    have hb : Below w.heap.size w (w.alloc (.cells #[.int .i64 0, .int .i64 0, .int .i64 0, .int .i64 0, .int .i64 0, .string ⟨#[]⟩, .string ⟨#[]⟩] 33)) := (Below.refl _ _).alloc (Nat.le_refl _) _
    exact (hA.below hb).mono hb.size
  have HL := Lib.hid hn
  have Hmx : Hid (b.length ≤ 140737488355328) := by show _ ≤ _; omega
  have hPA : partsP b = ⟨f1, o1, t1, p1, q1, k1, v1, s7.fl⟩ := parts_t hs1 hs2 hs3 hs4 hs5 hs6 hs7 hc
  have hf8 : f1 < 256 := by have := byS_lt b ⟨0, false⟩; rw [hs1] at this; exact this
  obtain ⟨hb1, hb4, hb2, hb7⟩ := bits_of hf8
  rw [show f1 % 2 = 1 by omega] at hb1
  rw [show f1 / 4 % 2 * 4 = 4 by omega] at hb4
  have hb1' : bits .and .u8 (f1 : Int) 1 = 1 := hb1
  have hb4' : bits .and .u8 (f1 : Int) 4 = 4 := hb4
  clear hb1 hb4
  have ha6 : s6.at_ ≤ n := by
    rw [← hn]
    have := (txS_le (most := 64) (l := b) (s := s5) (by
      have e1 := byS_at b ⟨0, false⟩ (Nat.zero_le _)
      rw [hs1] at e1
      have e2 := nmS_at b s1 e1
      rw [hs2] at e2
      have e3 := nmS_at b s2 e2
      rw [hs3] at e3
      have e4 := nmS_at b s3 e3
      rw [hs4] at e4
      have e5 := nmS_at b s4 e4
      rw [hs5] at e5
      exact e5)).1
    rw [hs6] at this; exact this
  obtain ⟨a6, ha6e⟩ : ∃ a6, s6.at_ = a6 := ⟨_, rfl⟩
  rw [ha6e] at ha6
  have HA6 := Lib.hid ha6e
  obtain ⟨m, hm⟩ : ∃ m, v1.length = m := ⟨_, rfl⟩
  have hml : m ≤ n := by
    rw [← hm, ← hn]
    have h := hs7
    unfold rawS at h
    split at h
    · injection h with h1 _; rw [← h1]; simp
    injection h with h1 _; rw [← h1]; simp
  have HM := Lib.hid hm
  have HS7 : Hid (tkS (n - a6) b s6 = (v1, s7)) := by
    show _ = _
    rw [← hs7, rawS_tk (by rw [ha6e, hn]; exact ha6), ha6e, hn]
  have HS1 := Lib.hid hs1
  have HS2 := Lib.hid hs2
  have HS3 := Lib.hid hs3
  have HS4 := Lib.hid hs4
  have HS5 := Lib.hid hs5
  have HS6 := Lib.hid hs6
  have HRB : Hid (readB b = (if 8 ≤ f1 ∨ s7.fl = true ∨ (f1 / 4 % 2 = 1 ∧ p1 = 0) then none else match (if f1 / 2 % 2 = 1 then decP v1 else some v1) with | none => none | some v => if small v ≠ decide (f1 / 2 % 2 = 1) then none else if chkR (mkR ⟨f1, o1, t1, p1, q1, k1, v1, s7.fl⟩ v) = 0 then some (mkR ⟨f1, o1, t1, p1, q1, k1, v1, s7.fl⟩ v) else none)) := by show _ = _; unfold readB; simp only [hPA] <;> rfl
  have HMK : Hid (∀ v, mkR ⟨f1, o1, t1, p1, q1, k1, v1, s7.fl⟩ v = ⟨2, o1, t1, p1, q1, k1, v⟩) := fun v => by unfold mkR; simp only [if_pos ht] <;> rfl
  have HC := Lib.hid hc
  generalize readB b = RR at *
  clear hA hn hPA hm ha6e
  go_enter Tryz.func49, Tryz.ntmps49
  by_cases h8 : 8 ≤ f1
  · have HE : Hid (RR = none) := by show _ = _; rw [HRB.out, if_pos (.inl h8)]
    have hb7' : ((f1 / 8 * 8 : Nat) : Int) ≠ 0 := by omega
    have hb7'' : (((f1 / 8 * 8 : Nat) : Int) == 0) = false := by simpa using hb7'
    clear hs1 hs2 hs3 hs4 hs5 hs6 hs7 hc ht h8
    generalize f1 / 8 * 8 = f8 at *
    go_wp2_with (first
      | (go_at_call 24
         refine (octNewR A n c b _ HAZ.out HL.out (by omega)).mono ?_
         rintro e w1 ⟨p, rfl, ho, hp, hb⟩
         have hpz : w.heap.size < p := by simp at hp; omega
         have H1 := Lib.hid (And.intro ho hb)
         have T1 : True := trivial
         clear ho hp hb)
      | (go_at_call 25
         refine (octByteD p f1 b ⟨0, false⟩ s1 _ H1.out.1 HS1.out Hmx.out).mono ?_
         rintro e w2 ⟨rfl, ha⟩
         have hb1 := H1.out.2
         have hzb : Box w1 w.heap.size 33 #[.int .i64 0, .int .i64 0, .int .i64 0, .int .i64 0, .int .i64 0, .string ⟨#[]⟩, .string ⟨#[]⟩] := (Box.new w _ _).below hb1 (by simp)
         have hbw1 : Below w.heap.size w w1 := ((Below.refl _ _).alloc (Nat.le_refl _) _).trans (hb1.mono (by simp))
         have hzb2 := hzb.chg ha.2 (fun e => by have e' : w.heap.size = p := e; omega)
         have hpl : p < w2.heap.size := ha.1.lt
         have K2 : RB w (w2.alloc (.cells #[.int .i64 2, .int .i64 0, .int .i64 0, .int .i64 0, .int .i64 0, .string ⟨#[]⟩, .string ⟨#[]⟩] 33)) w.heap.size p w2.heap.size b s1 #[.int .i64 2, .int .i64 0, .int .i64 0, .int .i64 0, .int .i64 0, .string ⟨#[]⟩, .string ⟨#[]⟩] :=
           ⟨ha.1.below ((Below.refl _ _).alloc (Nat.le_refl _) _), hzb2.alloc _, Box.new w2 _ _, (hbw1.trans (ha.2.below hbw1.size (fun k hk => by have hk' : k = p := hk; omega))).alloc (by omega) _, rfl, hpz, hpl⟩
         have hxc := K2.bq.cell
         have hxf := K2.bq.free
         have hxl := K2.bq.lt
         have hzc := K2.bz.cell
         have hzf := K2.bz.free
         have hzl := K2.bz.lt
         have HK2 := Lib.hid K2
         clear ha hb1 hzb hbw1 hzb2 K2)
      | (go_at_call 70
         have zz := T1
         clear zz
         refine (octNum p o1 b s1 s2 _ HK2.out.ord HS2.out Hmx.out).mono ?_
         rintro e w3 ⟨x3, rfl, hx, ha⟩
         have K := HK2.out.next ha
         have hxc := K.bq.cell
         have hxf := K.bq.free
         have hxl := K.bq.lt
         have hzc := K.bz.cell
         have hzf := K.bz.free
         have hzl := K.bz.lt
         have HK3 := Lib.hid (K.set 1 (.int .i64 x3))
         have T2 : True := trivial
         clear ha K T1 hx)
      | (go_at_call 70
         have zz := T2
         clear zz
         refine (octNum p t1 b s2 s3 _ HK3.out.ord HS3.out Hmx.out).mono ?_
         rintro e w4 ⟨x4, rfl, hx, ha⟩
         have K := HK3.out.next ha
         have hxc := K.bq.cell
         have hxf := K.bq.free
         have hxl := K.bq.lt
         have hzc := K.bz.cell
         have hzf := K.bz.free
         have hzl := K.bz.lt
         have HK4 := Lib.hid (K.set 2 (.int .i64 x4))
         have T3 : True := trivial
         clear ha K T2 hx)
      | (go_at_call 70
         have zz := T3
         clear zz
         refine (octNum p p1 b s3 s4 _ HK4.out.ord HS4.out Hmx.out).mono ?_
         rintro e w5 ⟨x5, rfl, hx, ha⟩
         have K := HK4.out.next ha
         have hxc := K.bq.cell
         have hxf := K.bq.free
         have hxl := K.bq.lt
         have hzc := K.bz.cell
         have hzf := K.bz.free
         have hzl := K.bz.lt
         have HK5 := Lib.hid (K.set 3 (.int .i64 x5))
         have T4 : True := trivial
         clear ha K T3 hx)
      | (go_at_call 70
         have zz := T4
         clear zz
         refine (octNum p q1 b s4 s5 _ HK5.out.ord HS5.out Hmx.out).mono ?_
         rintro e w6 ⟨x6, rfl, hx, ha⟩
         have K := HK5.out.next ha
         have hxc := K.bq.cell
         have hxf := K.bq.free
         have hxl := K.bq.lt
         have hzc := K.bz.cell
         have hzf := K.bz.free
         have hzl := K.bz.lt
         have HK6 := Lib.hid (K.set 4 (.int .i64 x6))
         have T5 : True := trivial
         clear ha K T4 hx)
      | (go_at_call 71
         refine (octTxD p 64 b k1 s5 s6 _ HK6.out.ord HS6.out Hmx.out (by omega)).mono ?_
         rintro e w8 ⟨rfl, ha⟩
         have K := HK6.out.next ha
         have hxc := K.bq.cell
         have hxf := K.bq.free
         have hxl := K.bq.lt
         have hzc := K.bz.cell
         have hzf := K.bz.free
         have hzl := K.bz.lt
         have HK8 := Lib.hid (K.set 5 (.string ⟨k1.toArray⟩))
         clear ha K)
      | (go_at_call 69
         refine (octRestD p n a6 b s6 _ HK8.out.ord HL.out HA6.out (by omega)).mono ?_
         rintro e w9 ⟨rfl, x9, rfl⟩
         rw [show ((n : Int) - a6) = ((n - a6 : Nat) : Int) by omega]
         have HK9 := Lib.hid (HK8.out.on (below_drewN (Below.refl _ _) x9)))
      | (go_at_call 72
         refine (octRawD p (n - a6) m b v1 s6 s7 _ HK9.out.ord HS7.out HM.out (by omega) Hmx.out).mono ?_
         rintro e w10 ⟨vA, vc, rfl, hv, ha⟩
         have K := HK9.out.next ha
         have hxc := K.bq.cell
         have hxf := K.bq.free
         have hxl := K.bq.lt
         have hzc := K.bz.cell
         have hzf := K.bz.free
         have hzl := K.bz.lt
         have HV := Lib.hid (ownsRow_rd hv)
         have HK10 := Lib.hid K
         clear hv ha K))
    refine bodyPost_ret (v := .tuple #[.agg #[.int .i64 0, .int .i64 0, .int .i64 0, .int .i64 0, .int .i64 0, .string ⟨#[]⟩, .string ⟨#[]⟩], .bool false]) ?_ rfl ?_
    · simp [results, Tryz.results49, go_sem, hzc, hzl]
    refine ⟨⟨0, 0, 0, 0, 0, [], [], false, rfl, .inl ⟨HE.out, rfl⟩⟩, ?_⟩
    have hB := HK10.out.bel
    have hzz := HK10.out.zz
    repeat (first | with_reducible exact hB | refine Below.setCell ?_ (by simp) _)
  have hb7' : bits .andNot .u8 (f1 : Int) 7 = 0 := by rw [hb7]; omega
  clear hb7
  by_cases hbad : s7.fl = true
  · have HE : Hid (RR = none) := by show _ = _; rw [HRB.out, if_pos (.inr (.inl hbad))]
    have HBAD := Lib.hid hbad
    clear hs1 hs2 hs3 hs4 hs5 hs6 hs7 hc ht h8 hbad
    go_wp2_with (first
      | (go_at_call 24
         refine (octNewR A n c b _ HAZ.out HL.out (by omega)).mono ?_
         rintro e w1 ⟨p, rfl, ho, hp, hb⟩
         have hpz : w.heap.size < p := by simp at hp; omega
         have H1 := Lib.hid (And.intro ho hb)
         have T1 : True := trivial
         clear ho hp hb)
      | (go_at_call 25
         refine (octByteD p f1 b ⟨0, false⟩ s1 _ H1.out.1 HS1.out Hmx.out).mono ?_
         rintro e w2 ⟨rfl, ha⟩
         have hb1 := H1.out.2
         have hzb : Box w1 w.heap.size 33 #[.int .i64 0, .int .i64 0, .int .i64 0, .int .i64 0, .int .i64 0, .string ⟨#[]⟩, .string ⟨#[]⟩] := (Box.new w _ _).below hb1 (by simp)
         have hbw1 : Below w.heap.size w w1 := ((Below.refl _ _).alloc (Nat.le_refl _) _).trans (hb1.mono (by simp))
         have hzb2 := hzb.chg ha.2 (fun e => by have e' : w.heap.size = p := e; omega)
         have hpl : p < w2.heap.size := ha.1.lt
         have K2 : RB w (w2.alloc (.cells #[.int .i64 2, .int .i64 0, .int .i64 0, .int .i64 0, .int .i64 0, .string ⟨#[]⟩, .string ⟨#[]⟩] 33)) w.heap.size p w2.heap.size b s1 #[.int .i64 2, .int .i64 0, .int .i64 0, .int .i64 0, .int .i64 0, .string ⟨#[]⟩, .string ⟨#[]⟩] :=
           ⟨ha.1.below ((Below.refl _ _).alloc (Nat.le_refl _) _), hzb2.alloc _, Box.new w2 _ _, (hbw1.trans (ha.2.below hbw1.size (fun k hk => by have hk' : k = p := hk; omega))).alloc (by omega) _, rfl, hpz, hpl⟩
         have hxc := K2.bq.cell
         have hxf := K2.bq.free
         have hxl := K2.bq.lt
         have hzc := K2.bz.cell
         have hzf := K2.bz.free
         have hzl := K2.bz.lt
         have HK2 := Lib.hid K2
         clear ha hb1 hzb hbw1 hzb2 K2)
      | (go_at_call 70
         have zz := T1
         clear zz
         refine (octNum p o1 b s1 s2 _ HK2.out.ord HS2.out Hmx.out).mono ?_
         rintro e w3 ⟨x3, rfl, hx, ha⟩
         have K := HK2.out.next ha
         have hxc := K.bq.cell
         have hxf := K.bq.free
         have hxl := K.bq.lt
         have hzc := K.bz.cell
         have hzf := K.bz.free
         have hzl := K.bz.lt
         have HK3 := Lib.hid (K.set 1 (.int .i64 x3))
         have T2 : True := trivial
         clear ha K T1 hx)
      | (go_at_call 70
         have zz := T2
         clear zz
         refine (octNum p t1 b s2 s3 _ HK3.out.ord HS3.out Hmx.out).mono ?_
         rintro e w4 ⟨x4, rfl, hx, ha⟩
         have K := HK3.out.next ha
         have hxc := K.bq.cell
         have hxf := K.bq.free
         have hxl := K.bq.lt
         have hzc := K.bz.cell
         have hzf := K.bz.free
         have hzl := K.bz.lt
         have HK4 := Lib.hid (K.set 2 (.int .i64 x4))
         have T3 : True := trivial
         clear ha K T2 hx)
      | (go_at_call 70
         have zz := T3
         clear zz
         refine (octNum p p1 b s3 s4 _ HK4.out.ord HS4.out Hmx.out).mono ?_
         rintro e w5 ⟨x5, rfl, hx, ha⟩
         have K := HK4.out.next ha
         have hxc := K.bq.cell
         have hxf := K.bq.free
         have hxl := K.bq.lt
         have hzc := K.bz.cell
         have hzf := K.bz.free
         have hzl := K.bz.lt
         have HK5 := Lib.hid (K.set 3 (.int .i64 x5))
         have T4 : True := trivial
         clear ha K T3 hx)
      | (go_at_call 70
         have zz := T4
         clear zz
         refine (octNum p q1 b s4 s5 _ HK5.out.ord HS5.out Hmx.out).mono ?_
         rintro e w6 ⟨x6, rfl, hx, ha⟩
         have K := HK5.out.next ha
         have hxc := K.bq.cell
         have hxf := K.bq.free
         have hxl := K.bq.lt
         have hzc := K.bz.cell
         have hzf := K.bz.free
         have hzl := K.bz.lt
         have HK6 := Lib.hid (K.set 4 (.int .i64 x6))
         have T5 : True := trivial
         clear ha K T4 hx)
      | (go_at_call 71
         refine (octTxD p 64 b k1 s5 s6 _ HK6.out.ord HS6.out Hmx.out (by omega)).mono ?_
         rintro e w8 ⟨rfl, ha⟩
         have K := HK6.out.next ha
         have hxc := K.bq.cell
         have hxf := K.bq.free
         have hxl := K.bq.lt
         have hzc := K.bz.cell
         have hzf := K.bz.free
         have hzl := K.bz.lt
         have HK8 := Lib.hid (K.set 5 (.string ⟨k1.toArray⟩))
         clear ha K)
      | (go_at_call 69
         refine (octRestD p n a6 b s6 _ HK8.out.ord HL.out HA6.out (by omega)).mono ?_
         rintro e w9 ⟨rfl, x9, rfl⟩
         rw [show ((n : Int) - a6) = ((n - a6 : Nat) : Int) by omega]
         have HK9 := Lib.hid (HK8.out.on (below_drewN (Below.refl _ _) x9)))
      | (go_at_call 72
         refine (octRawD p (n - a6) m b v1 s6 s7 _ HK9.out.ord HS7.out HM.out (by omega) Hmx.out).mono ?_
         rintro e w10 ⟨vA, vc, rfl, hv, ha⟩
         have K := HK9.out.next ha
         have hxc := K.bq.cell
         have hxf := K.bq.free
         have hxl := K.bq.lt
         have hzc := K.bz.cell
         have hzf := K.bz.free
         have hzl := K.bz.lt
         have HV := Lib.hid (ownsRow_rd hv)
         have HK10 := Lib.hid K
         clear hv ha K)
      | (go_at_call 73
         refine (octEnd p b s7 _ HK10.out.ord).mono ?_
         rintro e w11 ⟨x, y, rfl, hx, hb⟩
         have K := HK10.out.on hb
         have hxc := K.bq.cell
         have hxf := K.bq.free
         have hxl := K.bq.lt
         have hzc := K.bz.cell
         have hzf := K.bz.free
         have hzl := K.bz.lt
         have HK11 := Lib.hid K
         have HV11 := Lib.hid ((HV.out.below hb).mono hb.size)
         have hx0 : x ≠ 0 := fun e => by have h9 := (hx.2 e).1; have h8 := HBAD.out; rw [h9] at h8; cases h8
         have hx1 : (x == 0) = false := by simpa using hx0
         clear hx hb K))
    refine bodyPost_ret (v := .tuple #[.agg #[.int .i64 0, .int .i64 0, .int .i64 0, .int .i64 0, .int .i64 0, .string ⟨#[]⟩, .string ⟨#[]⟩], .bool false]) ?_ rfl ?_
    · simp [results, Tryz.results49, go_sem, hzc, hzl]
    refine ⟨⟨0, 0, 0, 0, 0, [], [], false, rfl, .inl ⟨HE.out, rfl⟩⟩, ?_⟩
    have hB := HK11.out.bel
    have hzz := HK11.out.zz
    repeat (first | with_reducible exact hB | refine Below.setCell ?_ (by simp) _)
  have hgd : s7.fl = false := by simpa using hbad
  obtain ⟨g6, g7⟩ := rawS_fl hs7 hgd
  have HGD : Hid (s7.fl = false ∧ s7.at_ = b.length) := ⟨hgd, g7⟩
  have g5 := txS_fl hs6 g6
  obtain ⟨g4, l5⟩ := nmS_fl hs5 g5
  obtain ⟨g3, l4⟩ := nmS_fl hs4 g4
  have HLT5 := Lib.hid l5
  have HLT4 := Lib.hid l4
  clear l5 l4
  obtain ⟨g2, l3⟩ := nmS_fl hs3 g3
  obtain ⟨g1, l2⟩ := nmS_fl hs2 g2
  have HLT3 := Lib.hid l3
  have HLT2 := Lib.hid l2
  clear l3 l2
  by_cases hp0 : p1 = 0
  · have HE : Hid (RR = none) := by show _ = _; rw [HRB.out, if_pos (.inr (.inr ⟨hc, hp0⟩))]
    have hp0' : ((p1 : Int) == 0) = true := by simp; exact hp0
    have HP0 := Lib.hid hp0
    clear hs1 hs2 hs3 hs4 hs5 hs6 hs7 hc ht h8 hbad hgd hp0 g1 g2 g3 g4 g5 g6 g7
    go_wp2_with (first
      | (go_at_call 24
         refine (octNewR A n c b _ HAZ.out HL.out (by omega)).mono ?_
         rintro e w1 ⟨p, rfl, ho, hp, hb⟩
         have hpz : w.heap.size < p := by simp at hp; omega
         have H1 := Lib.hid (And.intro ho hb)
         have T1 : True := trivial
         clear ho hp hb)
      | (go_at_call 25
         refine (octByteD p f1 b ⟨0, false⟩ s1 _ H1.out.1 HS1.out Hmx.out).mono ?_
         rintro e w2 ⟨rfl, ha⟩
         have hb1 := H1.out.2
         have hzb : Box w1 w.heap.size 33 #[.int .i64 0, .int .i64 0, .int .i64 0, .int .i64 0, .int .i64 0, .string ⟨#[]⟩, .string ⟨#[]⟩] := (Box.new w _ _).below hb1 (by simp)
         have hbw1 : Below w.heap.size w w1 := ((Below.refl _ _).alloc (Nat.le_refl _) _).trans (hb1.mono (by simp))
         have hzb2 := hzb.chg ha.2 (fun e => by have e' : w.heap.size = p := e; omega)
         have hpl : p < w2.heap.size := ha.1.lt
         have K2 : RB w (w2.alloc (.cells #[.int .i64 2, .int .i64 0, .int .i64 0, .int .i64 0, .int .i64 0, .string ⟨#[]⟩, .string ⟨#[]⟩] 33)) w.heap.size p w2.heap.size b s1 #[.int .i64 2, .int .i64 0, .int .i64 0, .int .i64 0, .int .i64 0, .string ⟨#[]⟩, .string ⟨#[]⟩] :=
           ⟨ha.1.below ((Below.refl _ _).alloc (Nat.le_refl _) _), hzb2.alloc _, Box.new w2 _ _, (hbw1.trans (ha.2.below hbw1.size (fun k hk => by have hk' : k = p := hk; omega))).alloc (by omega) _, rfl, hpz, hpl⟩
         have hxc := K2.bq.cell
         have hxf := K2.bq.free
         have hxl := K2.bq.lt
         have hzc := K2.bz.cell
         have hzf := K2.bz.free
         have hzl := K2.bz.lt
         have HK2 := Lib.hid K2
         clear ha hb1 hzb hbw1 hzb2 K2)
      | (go_at_call 70
         have zz := T1
         clear zz
         refine (octNum p o1 b s1 s2 _ HK2.out.ord HS2.out Hmx.out).mono ?_
         rintro e w3 ⟨x3, rfl, hx, ha⟩
         obtain rfl := hx HLT2.out
         have K := HK2.out.next ha
         have hxc := K.bq.cell
         have hxf := K.bq.free
         have hxl := K.bq.lt
         have hzc := K.bz.cell
         have hzf := K.bz.free
         have hzl := K.bz.lt
         have HK3 := Lib.hid (K.set 1 (.int .i64 (o1 : Nat)))
         have T2 : True := trivial
         clear ha K T1)
      | (go_at_call 70
         have zz := T2
         clear zz
         refine (octNum p t1 b s2 s3 _ HK3.out.ord HS3.out Hmx.out).mono ?_
         rintro e w4 ⟨x4, rfl, hx, ha⟩
         obtain rfl := hx HLT3.out
         have K := HK3.out.next ha
         have hxc := K.bq.cell
         have hxf := K.bq.free
         have hxl := K.bq.lt
         have hzc := K.bz.cell
         have hzf := K.bz.free
         have hzl := K.bz.lt
         have HK4 := Lib.hid (K.set 2 (.int .i64 (t1 : Nat)))
         have T3 : True := trivial
         clear ha K T2)
      | (go_at_call 70
         have zz := T3
         clear zz
         refine (octNum p p1 b s3 s4 _ HK4.out.ord HS4.out Hmx.out).mono ?_
         rintro e w5 ⟨x5, rfl, hx, ha⟩
         obtain rfl := hx HLT4.out
         have K := HK4.out.next ha
         have hxc := K.bq.cell
         have hxf := K.bq.free
         have hxl := K.bq.lt
         have hzc := K.bz.cell
         have hzf := K.bz.free
         have hzl := K.bz.lt
         have HK5 := Lib.hid (K.set 3 (.int .i64 (p1 : Nat)))
         have T4 : True := trivial
         clear ha K T3)
      | (go_at_call 70
         have zz := T4
         clear zz
         refine (octNum p q1 b s4 s5 _ HK5.out.ord HS5.out Hmx.out).mono ?_
         rintro e w6 ⟨x6, rfl, hx, ha⟩
         obtain rfl := hx HLT5.out
         have K := HK5.out.next ha
         have hxc := K.bq.cell
         have hxf := K.bq.free
         have hxl := K.bq.lt
         have hzc := K.bz.cell
         have hzf := K.bz.free
         have hzl := K.bz.lt
         have HK6 := Lib.hid (K.set 4 (.int .i64 (q1 : Nat)))
         have T5 : True := trivial
         clear ha K T4)
      | (go_at_call 71
         refine (octTxD p 64 b k1 s5 s6 _ HK6.out.ord HS6.out Hmx.out (by omega)).mono ?_
         rintro e w8 ⟨rfl, ha⟩
         have K := HK6.out.next ha
         have hxc := K.bq.cell
         have hxf := K.bq.free
         have hxl := K.bq.lt
         have hzc := K.bz.cell
         have hzf := K.bz.free
         have hzl := K.bz.lt
         have HK8 := Lib.hid (K.set 5 (.string ⟨k1.toArray⟩))
         clear ha K)
      | (go_at_call 69
         refine (octRestD p n a6 b s6 _ HK8.out.ord HL.out HA6.out (by omega)).mono ?_
         rintro e w9 ⟨rfl, x9, rfl⟩
         rw [show ((n : Int) - a6) = ((n - a6 : Nat) : Int) by omega]
         have HK9 := Lib.hid (HK8.out.on (below_drewN (Below.refl _ _) x9)))
      | (go_at_call 72
         refine (octRawD p (n - a6) m b v1 s6 s7 _ HK9.out.ord HS7.out HM.out (by omega) Hmx.out).mono ?_
         rintro e w10 ⟨vA, vc, rfl, hv, ha⟩
         have K := HK9.out.next ha
         have hxc := K.bq.cell
         have hxf := K.bq.free
         have hxl := K.bq.lt
         have hzc := K.bz.cell
         have hzf := K.bz.free
         have hzl := K.bz.lt
         have HV := Lib.hid (ownsRow_rd hv)
         have HK10 := Lib.hid K
         clear hv ha K)
      | (go_at_call 73
         refine (octEnd p b s7 _ HK10.out.ord).mono ?_
         rintro e w11 ⟨x, y, rfl, hx, hb⟩
         have K := HK10.out.on hb
         have hxc := K.bq.cell
         have hxf := K.bq.free
         have hxl := K.bq.lt
         have hzc := K.bz.cell
         have hzf := K.bz.free
         have hzl := K.bz.lt
         have HK11 := Lib.hid K
         have HV11 := Lib.hid ((HV.out.below hb).mono hb.size)
         obtain rfl : x = 0 := hx.1 HGD.out
         have hst := run_str w11 _ vA m vc v1 HM.out HV11.out
         clear hx hb K))
    refine bodyPost_ret (v := .tuple #[.agg #[.int .i64 0, .int .i64 0, .int .i64 0, .int .i64 0, .int .i64 0, .string ⟨#[]⟩, .string ⟨#[]⟩], .bool false]) ?_ rfl ?_
    · simp [results, Tryz.results49, go_sem, hzc, hzl]
    refine ⟨⟨0, 0, 0, 0, 0, [], [], false, rfl, .inl ⟨HE.out, rfl⟩⟩, ?_⟩
    have hB := HK11.out.bel
    have hzz := HK11.out.zz
    repeat (first | with_reducible exact hB | refine Below.setCell ?_ (by simp) _)
  have hp0' : ((p1 : Int) == 0) = false := by simp; omega
  have HRN : Hid (¬ (8 ≤ f1 ∨ s7.fl = true ∨ (f1 / 4 % 2 = 1 ∧ p1 = 0))) := by rintro (h | h | ⟨_, h⟩); exact h8 h; exact hbad h; exact hp0 h
  have HRC := HRB.out
  rw [if_neg HRN.out] at HRC
  clear hs1 hs2 hs3 hs4 hs5 hs6 hs7 hc h8 hbad hgd g1 g2 g3 g4 g5 g6 g7
  clear hp0
  by_cases hsq : f1 / 2 % 2 = 1
  · rw [if_pos hsq] at HRC
    rw [show f1 / 2 % 2 * 2 = 2 by omega] at hb2
    have hb2' : bits .and .u8 (f1 : Int) 2 = 2 := hb2
    clear hb2
    cases hdc : decP v1 with
    | none =>
      rw [hdc] at HRC
      have HE : Hid (RR = none) := HRC
      have HDEC := Lib.hid hdc
      clear HRC hdc ht hsq
      go_wp2_with (first
        | (go_at_call 24
           refine (octNewR A n c b _ HAZ.out HL.out (by omega)).mono ?_
           rintro e w1 ⟨p, rfl, ho, hp, hb⟩
           have hpz : w.heap.size < p := by simp at hp; omega
           have H1 := Lib.hid (And.intro ho hb)
           have T1 : True := trivial
           clear ho hp hb)
        | (go_at_call 25
           refine (octByteD p f1 b ⟨0, false⟩ s1 _ H1.out.1 HS1.out Hmx.out).mono ?_
           rintro e w2 ⟨rfl, ha⟩
           have hb1 := H1.out.2
           have hzb : Box w1 w.heap.size 33 #[.int .i64 0, .int .i64 0, .int .i64 0, .int .i64 0, .int .i64 0, .string ⟨#[]⟩, .string ⟨#[]⟩] := (Box.new w _ _).below hb1 (by simp)
           have hbw1 : Below w.heap.size w w1 := ((Below.refl _ _).alloc (Nat.le_refl _) _).trans (hb1.mono (by simp))
           have hzb2 := hzb.chg ha.2 (fun e => by have e' : w.heap.size = p := e; omega)
           have hpl : p < w2.heap.size := ha.1.lt
           have K2 : RB w (w2.alloc (.cells #[.int .i64 2, .int .i64 0, .int .i64 0, .int .i64 0, .int .i64 0, .string ⟨#[]⟩, .string ⟨#[]⟩] 33)) w.heap.size p w2.heap.size b s1 #[.int .i64 2, .int .i64 0, .int .i64 0, .int .i64 0, .int .i64 0, .string ⟨#[]⟩, .string ⟨#[]⟩] :=
             ⟨ha.1.below ((Below.refl _ _).alloc (Nat.le_refl _) _), hzb2.alloc _, Box.new w2 _ _, (hbw1.trans (ha.2.below hbw1.size (fun k hk => by have hk' : k = p := hk; omega))).alloc (by omega) _, rfl, hpz, hpl⟩
           have hxc := K2.bq.cell
           have hxf := K2.bq.free
           have hxl := K2.bq.lt
           have hzc := K2.bz.cell
           have hzf := K2.bz.free
           have hzl := K2.bz.lt
           have HK2 := Lib.hid K2
           clear ha hb1 hzb hbw1 hzb2 K2)
        | (go_at_call 70
           have zz := T1
           clear zz
           refine (octNum p o1 b s1 s2 _ HK2.out.ord HS2.out Hmx.out).mono ?_
           rintro e w3 ⟨x3, rfl, hx, ha⟩
           obtain rfl := hx HLT2.out
           have K := HK2.out.next ha
           have hxc := K.bq.cell
           have hxf := K.bq.free
           have hxl := K.bq.lt
           have hzc := K.bz.cell
           have hzf := K.bz.free
           have hzl := K.bz.lt
           have HK3 := Lib.hid (K.set 1 (.int .i64 (o1 : Nat)))
           have T2 : True := trivial
           clear ha K T1)
        | (go_at_call 70
           have zz := T2
           clear zz
           refine (octNum p t1 b s2 s3 _ HK3.out.ord HS3.out Hmx.out).mono ?_
           rintro e w4 ⟨x4, rfl, hx, ha⟩
           obtain rfl := hx HLT3.out
           have K := HK3.out.next ha
           have hxc := K.bq.cell
           have hxf := K.bq.free
           have hxl := K.bq.lt
           have hzc := K.bz.cell
           have hzf := K.bz.free
           have hzl := K.bz.lt
           have HK4 := Lib.hid (K.set 2 (.int .i64 (t1 : Nat)))
           have T3 : True := trivial
           clear ha K T2)
        | (go_at_call 70
           have zz := T3
           clear zz
           refine (octNum p p1 b s3 s4 _ HK4.out.ord HS4.out Hmx.out).mono ?_
           rintro e w5 ⟨x5, rfl, hx, ha⟩
           obtain rfl := hx HLT4.out
           have K := HK4.out.next ha
           have hxc := K.bq.cell
           have hxf := K.bq.free
           have hxl := K.bq.lt
           have hzc := K.bz.cell
           have hzf := K.bz.free
           have hzl := K.bz.lt
           have HK5 := Lib.hid (K.set 3 (.int .i64 (p1 : Nat)))
           have T4 : True := trivial
           clear ha K T3)
        | (go_at_call 70
           have zz := T4
           clear zz
           refine (octNum p q1 b s4 s5 _ HK5.out.ord HS5.out Hmx.out).mono ?_
           rintro e w6 ⟨x6, rfl, hx, ha⟩
           obtain rfl := hx HLT5.out
           have K := HK5.out.next ha
           have hxc := K.bq.cell
           have hxf := K.bq.free
           have hxl := K.bq.lt
           have hzc := K.bz.cell
           have hzf := K.bz.free
           have hzl := K.bz.lt
           have HK6 := Lib.hid (K.set 4 (.int .i64 (q1 : Nat)))
           have T5 : True := trivial
           clear ha K T4)
        | (go_at_call 71
           refine (octTxD p 64 b k1 s5 s6 _ HK6.out.ord HS6.out Hmx.out (by omega)).mono ?_
           rintro e w8 ⟨rfl, ha⟩
           have K := HK6.out.next ha
           have hxc := K.bq.cell
           have hxf := K.bq.free
           have hxl := K.bq.lt
           have hzc := K.bz.cell
           have hzf := K.bz.free
           have hzl := K.bz.lt
           have HK8 := Lib.hid (K.set 5 (.string ⟨k1.toArray⟩))
           clear ha K)
        | (go_at_call 69
           refine (octRestD p n a6 b s6 _ HK8.out.ord HL.out HA6.out (by omega)).mono ?_
           rintro e w9 ⟨rfl, x9, rfl⟩
           rw [show ((n : Int) - a6) = ((n - a6 : Nat) : Int) by omega]
           have HK9 := Lib.hid (HK8.out.on (below_drewN (Below.refl _ _) x9)))
        | (go_at_call 72
           refine (octRawD p (n - a6) m b v1 s6 s7 _ HK9.out.ord HS7.out HM.out (by omega) Hmx.out).mono ?_
           rintro e w10 ⟨vA, vc, rfl, hv, ha⟩
           have K := HK9.out.next ha
           have hxc := K.bq.cell
           have hxf := K.bq.free
           have hxl := K.bq.lt
           have hzc := K.bz.cell
           have hzf := K.bz.free
           have hzl := K.bz.lt
           have HV := Lib.hid (ownsRow_rd hv)
           have HK10 := Lib.hid K
           clear hv ha K)
        | (go_at_call 73
           refine (octEnd p b s7 _ HK10.out.ord).mono ?_
           rintro e w11 ⟨x, y, rfl, hx, hb⟩
           have K := HK10.out.on hb
           have hxc := K.bq.cell
           have hxf := K.bq.free
           have hxl := K.bq.lt
           have hzc := K.bz.cell
           have hzf := K.bz.free
           have hzl := K.bz.lt
           have HK11 := Lib.hid K
           have HV11 := Lib.hid ((HV.out.below hb).mono hb.size)
           obtain rfl : x = 0 := hx.1 HGD.out
           have hst := run_str w11 _ vA m vc v1 HM.out HV11.out
           clear hx hb K)
        | (go_at_call 74
           refine (decode_any vA m vc v1 _ HV11.out HM.out (by omega)).mono ?_
           rintro e w12 ⟨hd, hb⟩
           rw [HDEC.out] at hd
           obtain ⟨er, her, rfl⟩ := hd
           have her' : (er == 0) = false := by simpa using her
           have K := HK11.out.on hb
           have hxc := K.bq.cell
           have hxf := K.bq.free
           have hxl := K.bq.lt
           have hzc := K.bz.cell
           have hzf := K.bz.free
           have hzl := K.bz.lt
           have HK12 := Lib.hid K
           clear her hb K))
      refine bodyPost_ret (v := .tuple #[.agg #[.int .i64 0, .int .i64 0, .int .i64 0, .int .i64 0, .int .i64 0, .string ⟨#[]⟩, .string ⟨#[]⟩], .bool false]) ?_ rfl ?_
      · simp [results, Tryz.results49, go_sem, hzc, hzl]
      refine ⟨⟨0, 0, 0, 0, 0, [], [], false, rfl, .inl ⟨HE.out, rfl⟩⟩, ?_⟩
      have hB := HK12.out.bel
      have hzz := HK12.out.zz
      repeat (first | with_reducible exact hB | refine Below.setCell ?_ (by simp) _)
    | some v =>
      rw [hdc] at HRC
      simp only [decide_eq_true hsq] at HRC
      have hv4 : v.length ≤ 4096 := ((decP_iff v1 v).1 hdc).1
      have HDEC := Lib.hid hdc
      obtain ⟨vl, hvl⟩ : ∃ vl, v.length = vl := ⟨_, rfl⟩
      rw [hvl] at hv4
      have HVL := Lib.hid hvl
      clear hvl
      by_cases hsm : small v = true
      · rw [if_neg (fun h => h hsm)] at HRC
        have HSM := Lib.hid hsm
        rw [HMK.out v] at HRC
        have HRD := Lib.hid HRC
        clear HRC hsm ht hsq hdc
        go_wp2_with (first
          | (go_at_call 24
             refine (octNewR A n c b _ HAZ.out HL.out (by omega)).mono ?_
             rintro e w1 ⟨p, rfl, ho, hp, hb⟩
             have hpz : w.heap.size < p := by simp at hp; omega
             have H1 := Lib.hid (And.intro ho hb)
             have T1 : True := trivial
             clear ho hp hb)
          | (go_at_call 25
             refine (octByteD p f1 b ⟨0, false⟩ s1 _ H1.out.1 HS1.out Hmx.out).mono ?_
             rintro e w2 ⟨rfl, ha⟩
             have hb1 := H1.out.2
             have hzb : Box w1 w.heap.size 33 #[.int .i64 0, .int .i64 0, .int .i64 0, .int .i64 0, .int .i64 0, .string ⟨#[]⟩, .string ⟨#[]⟩] := (Box.new w _ _).below hb1 (by simp)
             have hbw1 : Below w.heap.size w w1 := ((Below.refl _ _).alloc (Nat.le_refl _) _).trans (hb1.mono (by simp))
             have hzb2 := hzb.chg ha.2 (fun e => by have e' : w.heap.size = p := e; omega)
             have hpl : p < w2.heap.size := ha.1.lt
             have K2 : RB w (w2.alloc (.cells #[.int .i64 2, .int .i64 0, .int .i64 0, .int .i64 0, .int .i64 0, .string ⟨#[]⟩, .string ⟨#[]⟩] 33)) w.heap.size p w2.heap.size b s1 #[.int .i64 2, .int .i64 0, .int .i64 0, .int .i64 0, .int .i64 0, .string ⟨#[]⟩, .string ⟨#[]⟩] :=
               ⟨ha.1.below ((Below.refl _ _).alloc (Nat.le_refl _) _), hzb2.alloc _, Box.new w2 _ _, (hbw1.trans (ha.2.below hbw1.size (fun k hk => by have hk' : k = p := hk; omega))).alloc (by omega) _, rfl, hpz, hpl⟩
             have hxc := K2.bq.cell
             have hxf := K2.bq.free
             have hxl := K2.bq.lt
             have hzc := K2.bz.cell
             have hzf := K2.bz.free
             have hzl := K2.bz.lt
             have HK2 := Lib.hid K2
             clear ha hb1 hzb hbw1 hzb2 K2)
          | (go_at_call 70
             have zz := T1
             clear zz
             refine (octNum p o1 b s1 s2 _ HK2.out.ord HS2.out Hmx.out).mono ?_
             rintro e w3 ⟨x3, rfl, hx, ha⟩
             obtain rfl := hx HLT2.out
             have K := HK2.out.next ha
             have hxc := K.bq.cell
             have hxf := K.bq.free
             have hxl := K.bq.lt
             have hzc := K.bz.cell
             have hzf := K.bz.free
             have hzl := K.bz.lt
             have HK3 := Lib.hid (K.set 1 (.int .i64 (o1 : Nat)))
             have T2 : True := trivial
             clear ha K T1)
          | (go_at_call 70
             have zz := T2
             clear zz
             refine (octNum p t1 b s2 s3 _ HK3.out.ord HS3.out Hmx.out).mono ?_
             rintro e w4 ⟨x4, rfl, hx, ha⟩
             obtain rfl := hx HLT3.out
             have K := HK3.out.next ha
             have hxc := K.bq.cell
             have hxf := K.bq.free
             have hxl := K.bq.lt
             have hzc := K.bz.cell
             have hzf := K.bz.free
             have hzl := K.bz.lt
             have HK4 := Lib.hid (K.set 2 (.int .i64 (t1 : Nat)))
             have T3 : True := trivial
             clear ha K T2)
          | (go_at_call 70
             have zz := T3
             clear zz
             refine (octNum p p1 b s3 s4 _ HK4.out.ord HS4.out Hmx.out).mono ?_
             rintro e w5 ⟨x5, rfl, hx, ha⟩
             obtain rfl := hx HLT4.out
             have K := HK4.out.next ha
             have hxc := K.bq.cell
             have hxf := K.bq.free
             have hxl := K.bq.lt
             have hzc := K.bz.cell
             have hzf := K.bz.free
             have hzl := K.bz.lt
             have HK5 := Lib.hid (K.set 3 (.int .i64 (p1 : Nat)))
             have T4 : True := trivial
             clear ha K T3)
          | (go_at_call 70
             have zz := T4
             clear zz
             refine (octNum p q1 b s4 s5 _ HK5.out.ord HS5.out Hmx.out).mono ?_
             rintro e w6 ⟨x6, rfl, hx, ha⟩
             obtain rfl := hx HLT5.out
             have K := HK5.out.next ha
             have hxc := K.bq.cell
             have hxf := K.bq.free
             have hxl := K.bq.lt
             have hzc := K.bz.cell
             have hzf := K.bz.free
             have hzl := K.bz.lt
             have HK6 := Lib.hid (K.set 4 (.int .i64 (q1 : Nat)))
             have T5 : True := trivial
             clear ha K T4)
          | (go_at_call 71
             refine (octTxD p 64 b k1 s5 s6 _ HK6.out.ord HS6.out Hmx.out (by omega)).mono ?_
             rintro e w8 ⟨rfl, ha⟩
             have K := HK6.out.next ha
             have hxc := K.bq.cell
             have hxf := K.bq.free
             have hxl := K.bq.lt
             have hzc := K.bz.cell
             have hzf := K.bz.free
             have hzl := K.bz.lt
             have HK8 := Lib.hid (K.set 5 (.string ⟨k1.toArray⟩))
             clear ha K)
          | (go_at_call 69
             refine (octRestD p n a6 b s6 _ HK8.out.ord HL.out HA6.out (by omega)).mono ?_
             rintro e w9 ⟨rfl, x9, rfl⟩
             rw [show ((n : Int) - a6) = ((n - a6 : Nat) : Int) by omega]
             have HK9 := Lib.hid (HK8.out.on (below_drewN (Below.refl _ _) x9)))
          | (go_at_call 72
             refine (octRawD p (n - a6) m b v1 s6 s7 _ HK9.out.ord HS7.out HM.out (by omega) Hmx.out).mono ?_
             rintro e w10 ⟨vA, vc, rfl, hv, ha⟩
             have K := HK9.out.next ha
             have hxc := K.bq.cell
             have hxf := K.bq.free
             have hxl := K.bq.lt
             have hzc := K.bz.cell
             have hzf := K.bz.free
             have hzl := K.bz.lt
             have HV := Lib.hid (ownsRow_rd hv)
             have HK10 := Lib.hid K
             clear hv ha K)
          | (go_at_call 73
             refine (octEnd p b s7 _ HK10.out.ord).mono ?_
             rintro e w11 ⟨x, y, rfl, hx, hb⟩
             have K := HK10.out.on hb
             have hxc := K.bq.cell
             have hxf := K.bq.free
             have hxl := K.bq.lt
             have hzc := K.bz.cell
             have hzf := K.bz.free
             have hzl := K.bz.lt
             have HK11 := Lib.hid K
             have HV11 := Lib.hid ((HV.out.below hb).mono hb.size)
             obtain rfl : x = 0 := hx.1 HGD.out
             have hst := run_str w11 _ vA m vc v1 HM.out HV11.out
             clear hx hb K)
          | (go_at_call 74
             refine (decode_any vA m vc v1 _ HV11.out HM.out (by omega)).mono ?_
             rintro e w12 ⟨hd, hb⟩
             rw [HDEC.out] at hd
             obtain ⟨dA, dc, rfl, hd⟩ := hd
             rw [HVL.out] at hd ⊢
             have hst2 := run_str w12 _ dA vl dc v HVL.out (ownsRow_rd hd)
             have K := HK11.out.on hb
             have hxc := K.bq.cell
             have hxf := K.bq.free
             have hxl := K.bq.lt
             have hzc := K.bz.cell
             have hzf := K.bz.free
             have hzl := K.bz.lt
             have HK12 := Lib.hid K
             clear hd hb K)
          | (go_at_call 75
             refine (short_any v vl _ HVL.out (by omega)).mono ?_
             rintro e w13 ⟨sA, sc, rfl, _, hb⟩
             rw [HSM.out]
             have K := (HK12.out.set 6 (.string ⟨v.toArray⟩)).on hb
             have hxc := K.bq.cell
             have hxf := K.bq.free
             have hxl := K.bq.lt
             have hzc := K.bz.cell
             have hzf := K.bz.free
             have hzl := K.bz.lt
             have HK13 := Lib.hid K
             clear hb K))
        have HKF : Hid (RB w w13.drew w.heap.size p w2.heap.size b s7 #[.int .i64 2, .int .i64 (o1 : Nat), .int .i64 (t1 : Nat), .int .i64 (p1 : Nat), .int .i64 (q1 : Nat), .string ⟨k1.toArray⟩, .string ⟨v.toArray⟩]) := by
          show RB _ _ _ _ _ _ _ _
          have := HK13.out.on ((Below.refl w13.heap.size w13).drew)
          simpa using this
        obtain ⟨wz, hwz⟩ : ∃ wz, w13.drew = wz := ⟨_, rfl⟩
        rw [hwz] at HKF
        have hS0 : (fun w' : World => w'.cell? ⟨w2.heap.size, 0, none⟩ = some (.int .i64 2) ∧ w'.cell? ⟨w2.heap.size, 1, none⟩ = some (.int .i64 (o1 : Nat)) ∧ w'.cell? ⟨w2.heap.size, 2, none⟩ = some (.int .i64 (t1 : Nat)) ∧ w'.cell? ⟨w2.heap.size, 3, none⟩ = some (.int .i64 (p1 : Nat)) ∧ w'.cell? ⟨w2.heap.size, 4, none⟩ = some (.int .i64 (q1 : Nat)) ∧ w'.cell? ⟨w2.heap.size, 5, none⟩ = some (.string ⟨k1.toArray⟩) ∧ w'.cell? ⟨w2.heap.size, 6, none⟩ = some (.string ⟨v.toArray⟩)) wz := ⟨HKF.out.cell 0, HKF.out.cell 1, HKF.out.cell 2, HKF.out.cell 3, HKF.out.cell 4, HKF.out.cell 5, HKF.out.cell 6⟩
        clear hxc hxf hxl hzc hzf hzl
        refine WT.start (fun w' : World => w'.cell? ⟨w2.heap.size, 0, none⟩ = some (.int .i64 2) ∧ w'.cell? ⟨w2.heap.size, 1, none⟩ = some (.int .i64 (o1 : Nat)) ∧ w'.cell? ⟨w2.heap.size, 2, none⟩ = some (.int .i64 (t1 : Nat)) ∧ w'.cell? ⟨w2.heap.size, 3, none⟩ = some (.int .i64 (p1 : Nat)) ∧ w'.cell? ⟨w2.heap.size, 4, none⟩ = some (.int .i64 (q1 : Nat)) ∧ w'.cell? ⟨w2.heap.size, 5, none⟩ = some (.string ⟨k1.toArray⟩) ∧ w'.cell? ⟨w2.heap.size, 6, none⟩ = some (.string ⟨v.toArray⟩)) 5 (by kernel_rfl) ?_
        rw [hwz]
        clear hwz
        refine WT.take 0 (v := ?_) rfl (by kernel_rfl) (by kernel_rfl) (by kernel_rfl) (by kernel_rfl) (fun _ _ _ h => h) (Or.inl ⟨by rfl, ?hy⟩) hS0 ?_
        case hy => first | (intro w hSw; go_simp; done) | (intro w hSw; go_simp; with_reducible rfl)
        simp only [Act.put, List.setIfInBounds_toArray, List.set_cons_zero, List.set_cons_succ]
        refine WT.take 1 (v := ?_) rfl (by kernel_rfl) (by kernel_rfl) (by kernel_rfl) (by kernel_rfl) (fun _ _ _ h => h) (Or.inl ⟨by rfl, ?hy⟩) hS0 ?_
        case hy => first | (intro w hSw; go_simp; done) | (intro w hSw; go_simp; with_reducible rfl)
        simp only [Act.put, List.setIfInBounds_toArray, List.set_cons_zero, List.set_cons_succ]
        refine WT.step 2 rfl (by kernel_rfl) (by decide) fun K hK => ?_
        go_simp
        go_at_call 76
        refine (chk_any 2 o1 t1 p1 q1 k1 v _).mono ?_
        rintro e w14 ⟨rfl, hb14⟩
        have HKG := Lib.hid (HKF.out.on hb14)
        have hS1 : (fun w' : World => w'.cell? ⟨w2.heap.size, 0, none⟩ = some (.int .i64 2) ∧ w'.cell? ⟨w2.heap.size, 1, none⟩ = some (.int .i64 (o1 : Nat)) ∧ w'.cell? ⟨w2.heap.size, 2, none⟩ = some (.int .i64 (t1 : Nat)) ∧ w'.cell? ⟨w2.heap.size, 3, none⟩ = some (.int .i64 (p1 : Nat)) ∧ w'.cell? ⟨w2.heap.size, 4, none⟩ = some (.int .i64 (q1 : Nat)) ∧ w'.cell? ⟨w2.heap.size, 5, none⟩ = some (.string ⟨k1.toArray⟩) ∧ w'.cell? ⟨w2.heap.size, 6, none⟩ = some (.string ⟨v.toArray⟩)) w14 := ⟨HKG.out.cell 0, HKG.out.cell 1, HKG.out.cell 2, HKG.out.cell 3, HKG.out.cell 4, HKG.out.cell 5, HKG.out.cell 6⟩
        clear hb14
        have hzf := HKG.out.bz.free
        have hzl := HKG.out.bz.lt
        have hzc := HKG.out.bz.cell
        go_simp
        refine hK.out _ _ hS1 ?_
        clear hK K
        refine WT.take 3 (v := ?_) rfl (by kernel_rfl) (by kernel_rfl) (by kernel_rfl) (by kernel_rfl) (fun _ _ _ h => h) (Or.inl ⟨by rfl, ?hy⟩) hS1 ?_
        case hy => first | (intro w hSw; go_simp; done) | (intro w hSw; go_simp; with_reducible rfl)
        simp only [Act.put, List.setIfInBounds_toArray, List.set_cons_zero, List.set_cons_succ]
        have hne : w2.heap.size ≠ w.heap.size := by have := HKG.out.hz; have := HKG.out.hq; omega
        have hq7 := (((((((HKG.out.bq.far (p := ⟨w.heap.size, 0, none⟩) hne (.int .i64 2)).far (p := ⟨w.heap.size, 1, none⟩) hne (.int .i64 (o1 : Nat))).far (p := ⟨w.heap.size, 2, none⟩) hne (.int .i64 (t1 : Nat))).far (p := ⟨w.heap.size, 3, none⟩) hne (.int .i64 (p1 : Nat))).far (p := ⟨w.heap.size, 4, none⟩) hne (.int .i64 (q1 : Nat))).far (p := ⟨w.heap.size, 5, none⟩) hne (.string ⟨k1.toArray⟩)).far (p := ⟨w.heap.size, 6, none⟩) hne (.string ⟨v.toArray⟩))
        have hS2 : (fun w' : World => w'.cell? ⟨w2.heap.size, 0, none⟩ = some (.int .i64 2) ∧ w'.cell? ⟨w2.heap.size, 1, none⟩ = some (.int .i64 (o1 : Nat)) ∧ w'.cell? ⟨w2.heap.size, 2, none⟩ = some (.int .i64 (t1 : Nat)) ∧ w'.cell? ⟨w2.heap.size, 3, none⟩ = some (.int .i64 (p1 : Nat)) ∧ w'.cell? ⟨w2.heap.size, 4, none⟩ = some (.int .i64 (q1 : Nat)) ∧ w'.cell? ⟨w2.heap.size, 5, none⟩ = some (.string ⟨k1.toArray⟩) ∧ w'.cell? ⟨w2.heap.size, 6, none⟩ = some (.string ⟨v.toArray⟩)) (((((((w14.setCell ⟨w.heap.size, 0, none⟩ (.int .i64 2)).setCell ⟨w.heap.size, 1, none⟩ (.int .i64 (o1 : Nat))).setCell ⟨w.heap.size, 2, none⟩ (.int .i64 (t1 : Nat))).setCell ⟨w.heap.size, 3, none⟩ (.int .i64 (p1 : Nat))).setCell ⟨w.heap.size, 4, none⟩ (.int .i64 (q1 : Nat))).setCell ⟨w.heap.size, 5, none⟩ (.string ⟨k1.toArray⟩)).setCell ⟨w.heap.size, 6, none⟩ (.string ⟨v.toArray⟩)) := ⟨hq7.cell 0, hq7.cell 1, hq7.cell 2, hq7.cell 3, hq7.cell 4, hq7.cell 5, hq7.cell 6⟩
        clear hq7
        refine WT.step 4 rfl (by kernel_rfl) (by decide) fun K hK => ?_
        go_simp
        refine hK.out _ _ hS2 ?_
        clear hK K
        refine WT.last 5 rfl (by kernel_rfl) rfl fun K hK => ?_
        go_simp
        refine hK.out _ _ ?_
        clear hK K
        refine WT.done (by kernel_rfl) ?_
        go_wp2
        refine bodyPost_ret (v := .tuple #[.agg #[.int .i64 2, .int .i64 (o1 : Nat), .int .i64 (t1 : Nat), .int .i64 (p1 : Nat), .int .i64 (q1 : Nat), .string ⟨k1.toArray⟩, .string ⟨v.toArray⟩], .bool (chkR ⟨2, o1, t1, p1, q1, k1, v⟩ == 0)]) ?_ rfl ?_
        · simp [results, Tryz.results49, go_sem, hzc, hzl]
        refine ⟨⟨2, o1, t1, p1, q1, k1, v, _, rfl, ?_⟩, ?_⟩
        · by_cases hck : chkR ⟨2, o1, t1, p1, q1, k1, v⟩ = 0
          · exact .inr ⟨by rw [HRD.out, if_pos hck], by simpa using hck⟩
          exact .inl ⟨by rw [HRD.out, if_neg hck], by simpa using hck⟩
        have hB := HKG.out.bel
        repeat (first | with_reducible exact hB | refine Below.setCell ?_ (by simp) _)
      rw [if_pos hsm] at HRC
      have HE : Hid (RR = none) := HRC
      have HSM : Hid (small v = false) := by show _ = _; simpa using hsm
      clear HRC hsm ht hsq hdc
      go_wp2_with (first
        | (go_at_call 24
           refine (octNewR A n c b _ HAZ.out HL.out (by omega)).mono ?_
           rintro e w1 ⟨p, rfl, ho, hp, hb⟩
           have hpz : w.heap.size < p := by simp at hp; omega
           have H1 := Lib.hid (And.intro ho hb)
           have T1 : True := trivial
           clear ho hp hb)
        | (go_at_call 25
           refine (octByteD p f1 b ⟨0, false⟩ s1 _ H1.out.1 HS1.out Hmx.out).mono ?_
           rintro e w2 ⟨rfl, ha⟩
           have hb1 := H1.out.2
           have hzb : Box w1 w.heap.size 33 #[.int .i64 0, .int .i64 0, .int .i64 0, .int .i64 0, .int .i64 0, .string ⟨#[]⟩, .string ⟨#[]⟩] := (Box.new w _ _).below hb1 (by simp)
           have hbw1 : Below w.heap.size w w1 := ((Below.refl _ _).alloc (Nat.le_refl _) _).trans (hb1.mono (by simp))
           have hzb2 := hzb.chg ha.2 (fun e => by have e' : w.heap.size = p := e; omega)
           have hpl : p < w2.heap.size := ha.1.lt
           have K2 : RB w (w2.alloc (.cells #[.int .i64 2, .int .i64 0, .int .i64 0, .int .i64 0, .int .i64 0, .string ⟨#[]⟩, .string ⟨#[]⟩] 33)) w.heap.size p w2.heap.size b s1 #[.int .i64 2, .int .i64 0, .int .i64 0, .int .i64 0, .int .i64 0, .string ⟨#[]⟩, .string ⟨#[]⟩] :=
             ⟨ha.1.below ((Below.refl _ _).alloc (Nat.le_refl _) _), hzb2.alloc _, Box.new w2 _ _, (hbw1.trans (ha.2.below hbw1.size (fun k hk => by have hk' : k = p := hk; omega))).alloc (by omega) _, rfl, hpz, hpl⟩
           have hxc := K2.bq.cell
           have hxf := K2.bq.free
           have hxl := K2.bq.lt
           have hzc := K2.bz.cell
           have hzf := K2.bz.free
           have hzl := K2.bz.lt
           have HK2 := Lib.hid K2
           clear ha hb1 hzb hbw1 hzb2 K2)
        | (go_at_call 70
           have zz := T1
           clear zz
           refine (octNum p o1 b s1 s2 _ HK2.out.ord HS2.out Hmx.out).mono ?_
           rintro e w3 ⟨x3, rfl, hx, ha⟩
           obtain rfl := hx HLT2.out
           have K := HK2.out.next ha
           have hxc := K.bq.cell
           have hxf := K.bq.free
           have hxl := K.bq.lt
           have hzc := K.bz.cell
           have hzf := K.bz.free
           have hzl := K.bz.lt
           have HK3 := Lib.hid (K.set 1 (.int .i64 (o1 : Nat)))
           have T2 : True := trivial
           clear ha K T1)
        | (go_at_call 70
           have zz := T2
           clear zz
           refine (octNum p t1 b s2 s3 _ HK3.out.ord HS3.out Hmx.out).mono ?_
           rintro e w4 ⟨x4, rfl, hx, ha⟩
           obtain rfl := hx HLT3.out
           have K := HK3.out.next ha
           have hxc := K.bq.cell
           have hxf := K.bq.free
           have hxl := K.bq.lt
           have hzc := K.bz.cell
           have hzf := K.bz.free
           have hzl := K.bz.lt
           have HK4 := Lib.hid (K.set 2 (.int .i64 (t1 : Nat)))
           have T3 : True := trivial
           clear ha K T2)
        | (go_at_call 70
           have zz := T3
           clear zz
           refine (octNum p p1 b s3 s4 _ HK4.out.ord HS4.out Hmx.out).mono ?_
           rintro e w5 ⟨x5, rfl, hx, ha⟩
           obtain rfl := hx HLT4.out
           have K := HK4.out.next ha
           have hxc := K.bq.cell
           have hxf := K.bq.free
           have hxl := K.bq.lt
           have hzc := K.bz.cell
           have hzf := K.bz.free
           have hzl := K.bz.lt
           have HK5 := Lib.hid (K.set 3 (.int .i64 (p1 : Nat)))
           have T4 : True := trivial
           clear ha K T3)
        | (go_at_call 70
           have zz := T4
           clear zz
           refine (octNum p q1 b s4 s5 _ HK5.out.ord HS5.out Hmx.out).mono ?_
           rintro e w6 ⟨x6, rfl, hx, ha⟩
           obtain rfl := hx HLT5.out
           have K := HK5.out.next ha
           have hxc := K.bq.cell
           have hxf := K.bq.free
           have hxl := K.bq.lt
           have hzc := K.bz.cell
           have hzf := K.bz.free
           have hzl := K.bz.lt
           have HK6 := Lib.hid (K.set 4 (.int .i64 (q1 : Nat)))
           have T5 : True := trivial
           clear ha K T4)
        | (go_at_call 71
           refine (octTxD p 64 b k1 s5 s6 _ HK6.out.ord HS6.out Hmx.out (by omega)).mono ?_
           rintro e w8 ⟨rfl, ha⟩
           have K := HK6.out.next ha
           have hxc := K.bq.cell
           have hxf := K.bq.free
           have hxl := K.bq.lt
           have hzc := K.bz.cell
           have hzf := K.bz.free
           have hzl := K.bz.lt
           have HK8 := Lib.hid (K.set 5 (.string ⟨k1.toArray⟩))
           clear ha K)
        | (go_at_call 69
           refine (octRestD p n a6 b s6 _ HK8.out.ord HL.out HA6.out (by omega)).mono ?_
           rintro e w9 ⟨rfl, x9, rfl⟩
           rw [show ((n : Int) - a6) = ((n - a6 : Nat) : Int) by omega]
           have HK9 := Lib.hid (HK8.out.on (below_drewN (Below.refl _ _) x9)))
        | (go_at_call 72
           refine (octRawD p (n - a6) m b v1 s6 s7 _ HK9.out.ord HS7.out HM.out (by omega) Hmx.out).mono ?_
           rintro e w10 ⟨vA, vc, rfl, hv, ha⟩
           have K := HK9.out.next ha
           have hxc := K.bq.cell
           have hxf := K.bq.free
           have hxl := K.bq.lt
           have hzc := K.bz.cell
           have hzf := K.bz.free
           have hzl := K.bz.lt
           have HV := Lib.hid (ownsRow_rd hv)
           have HK10 := Lib.hid K
           clear hv ha K)
        | (go_at_call 73
           refine (octEnd p b s7 _ HK10.out.ord).mono ?_
           rintro e w11 ⟨x, y, rfl, hx, hb⟩
           have K := HK10.out.on hb
           have hxc := K.bq.cell
           have hxf := K.bq.free
           have hxl := K.bq.lt
           have hzc := K.bz.cell
           have hzf := K.bz.free
           have hzl := K.bz.lt
           have HK11 := Lib.hid K
           have HV11 := Lib.hid ((HV.out.below hb).mono hb.size)
           obtain rfl : x = 0 := hx.1 HGD.out
           have hst := run_str w11 _ vA m vc v1 HM.out HV11.out
           clear hx hb K)
        | (go_at_call 74
           refine (decode_any vA m vc v1 _ HV11.out HM.out (by omega)).mono ?_
           rintro e w12 ⟨hd, hb⟩
           rw [HDEC.out] at hd
           obtain ⟨dA, dc, rfl, hd⟩ := hd
           rw [HVL.out] at hd ⊢
           have hst2 := run_str w12 _ dA vl dc v HVL.out (ownsRow_rd hd)
           have K := HK11.out.on hb
           have hxc := K.bq.cell
           have hxf := K.bq.free
           have hxl := K.bq.lt
           have hzc := K.bz.cell
           have hzf := K.bz.free
           have hzl := K.bz.lt
           have HK12 := Lib.hid K
           clear hd hb K)
        | (go_at_call 75
           refine (short_any v vl _ HVL.out (by omega)).mono ?_
           rintro e w13 ⟨sA, sc, rfl, _, hb⟩
           rw [HSM.out]
           have K := (HK12.out.set 6 (.string ⟨v.toArray⟩)).on hb
           have hxc := K.bq.cell
           have hxf := K.bq.free
           have hxl := K.bq.lt
           have hzc := K.bz.cell
           have hzf := K.bz.free
           have hzl := K.bz.lt
           have HK13 := Lib.hid K
           clear hb K))
      refine bodyPost_ret (v := .tuple #[.agg #[.int .i64 0, .int .i64 0, .int .i64 0, .int .i64 0, .int .i64 0, .string ⟨#[]⟩, .string ⟨#[]⟩], .bool false]) ?_ rfl ?_
      · simp [results, Tryz.results49, go_sem, hzc, hzl]
      refine ⟨⟨0, 0, 0, 0, 0, [], [], false, rfl, .inl ⟨HE.out, rfl⟩⟩, ?_⟩
      have hB := HK13.out.bel
      have hzz := HK13.out.zz
      repeat (first | with_reducible exact hB | refine Below.setCell ?_ (by simp) _)
  rw [if_neg hsq] at HRC
  rw [show f1 / 2 % 2 * 2 = 0 by omega] at hb2
  have hb2' : bits .and .u8 (f1 : Int) 2 = 0 := hb2
  clear hb2
  simp only [decide_eq_false hsq] at HRC
  have hv4 : v1.length ≤ 4096 := by rw [HM.out]; omega
  obtain ⟨vl, hvl⟩ : ∃ vl, v1.length = vl := ⟨_, rfl⟩
  rw [hvl] at hv4
  have HVL := Lib.hid hvl
  clear hvl
  by_cases hsm : small v1 = false
  · rw [if_neg (fun h => h hsm)] at HRC
    have HSM := Lib.hid hsm
    rw [HMK.out v1] at HRC
    have HRD := Lib.hid HRC
    clear HRC hsm ht hsq
    go_wp2_with (first
      | (go_at_call 24
         refine (octNewR A n c b _ HAZ.out HL.out (by omega)).mono ?_
         rintro e w1 ⟨p, rfl, ho, hp, hb⟩
         have hpz : w.heap.size < p := by simp at hp; omega
         have H1 := Lib.hid (And.intro ho hb)
         have T1 : True := trivial
         clear ho hp hb)
      | (go_at_call 25
         refine (octByteD p f1 b ⟨0, false⟩ s1 _ H1.out.1 HS1.out Hmx.out).mono ?_
         rintro e w2 ⟨rfl, ha⟩
         have hb1 := H1.out.2
         have hzb : Box w1 w.heap.size 33 #[.int .i64 0, .int .i64 0, .int .i64 0, .int .i64 0, .int .i64 0, .string ⟨#[]⟩, .string ⟨#[]⟩] := (Box.new w _ _).below hb1 (by simp)
         have hbw1 : Below w.heap.size w w1 := ((Below.refl _ _).alloc (Nat.le_refl _) _).trans (hb1.mono (by simp))
         have hzb2 := hzb.chg ha.2 (fun e => by have e' : w.heap.size = p := e; omega)
         have hpl : p < w2.heap.size := ha.1.lt
         have K2 : RB w (w2.alloc (.cells #[.int .i64 2, .int .i64 0, .int .i64 0, .int .i64 0, .int .i64 0, .string ⟨#[]⟩, .string ⟨#[]⟩] 33)) w.heap.size p w2.heap.size b s1 #[.int .i64 2, .int .i64 0, .int .i64 0, .int .i64 0, .int .i64 0, .string ⟨#[]⟩, .string ⟨#[]⟩] :=
           ⟨ha.1.below ((Below.refl _ _).alloc (Nat.le_refl _) _), hzb2.alloc _, Box.new w2 _ _, (hbw1.trans (ha.2.below hbw1.size (fun k hk => by have hk' : k = p := hk; omega))).alloc (by omega) _, rfl, hpz, hpl⟩
         have hxc := K2.bq.cell
         have hxf := K2.bq.free
         have hxl := K2.bq.lt
         have hzc := K2.bz.cell
         have hzf := K2.bz.free
         have hzl := K2.bz.lt
         have HK2 := Lib.hid K2
         clear ha hb1 hzb hbw1 hzb2 K2)
      | (go_at_call 70
         have zz := T1
         clear zz
         refine (octNum p o1 b s1 s2 _ HK2.out.ord HS2.out Hmx.out).mono ?_
         rintro e w3 ⟨x3, rfl, hx, ha⟩
         obtain rfl := hx HLT2.out
         have K := HK2.out.next ha
         have hxc := K.bq.cell
         have hxf := K.bq.free
         have hxl := K.bq.lt
         have hzc := K.bz.cell
         have hzf := K.bz.free
         have hzl := K.bz.lt
         have HK3 := Lib.hid (K.set 1 (.int .i64 (o1 : Nat)))
         have T2 : True := trivial
         clear ha K T1)
      | (go_at_call 70
         have zz := T2
         clear zz
         refine (octNum p t1 b s2 s3 _ HK3.out.ord HS3.out Hmx.out).mono ?_
         rintro e w4 ⟨x4, rfl, hx, ha⟩
         obtain rfl := hx HLT3.out
         have K := HK3.out.next ha
         have hxc := K.bq.cell
         have hxf := K.bq.free
         have hxl := K.bq.lt
         have hzc := K.bz.cell
         have hzf := K.bz.free
         have hzl := K.bz.lt
         have HK4 := Lib.hid (K.set 2 (.int .i64 (t1 : Nat)))
         have T3 : True := trivial
         clear ha K T2)
      | (go_at_call 70
         have zz := T3
         clear zz
         refine (octNum p p1 b s3 s4 _ HK4.out.ord HS4.out Hmx.out).mono ?_
         rintro e w5 ⟨x5, rfl, hx, ha⟩
         obtain rfl := hx HLT4.out
         have K := HK4.out.next ha
         have hxc := K.bq.cell
         have hxf := K.bq.free
         have hxl := K.bq.lt
         have hzc := K.bz.cell
         have hzf := K.bz.free
         have hzl := K.bz.lt
         have HK5 := Lib.hid (K.set 3 (.int .i64 (p1 : Nat)))
         have T4 : True := trivial
         clear ha K T3)
      | (go_at_call 70
         have zz := T4
         clear zz
         refine (octNum p q1 b s4 s5 _ HK5.out.ord HS5.out Hmx.out).mono ?_
         rintro e w6 ⟨x6, rfl, hx, ha⟩
         obtain rfl := hx HLT5.out
         have K := HK5.out.next ha
         have hxc := K.bq.cell
         have hxf := K.bq.free
         have hxl := K.bq.lt
         have hzc := K.bz.cell
         have hzf := K.bz.free
         have hzl := K.bz.lt
         have HK6 := Lib.hid (K.set 4 (.int .i64 (q1 : Nat)))
         have T5 : True := trivial
         clear ha K T4)
      | (go_at_call 71
         refine (octTxD p 64 b k1 s5 s6 _ HK6.out.ord HS6.out Hmx.out (by omega)).mono ?_
         rintro e w8 ⟨rfl, ha⟩
         have K := HK6.out.next ha
         have hxc := K.bq.cell
         have hxf := K.bq.free
         have hxl := K.bq.lt
         have hzc := K.bz.cell
         have hzf := K.bz.free
         have hzl := K.bz.lt
         have HK8 := Lib.hid (K.set 5 (.string ⟨k1.toArray⟩))
         clear ha K)
      | (go_at_call 69
         refine (octRestD p n a6 b s6 _ HK8.out.ord HL.out HA6.out (by omega)).mono ?_
         rintro e w9 ⟨rfl, x9, rfl⟩
         rw [show ((n : Int) - a6) = ((n - a6 : Nat) : Int) by omega]
         have HK9 := Lib.hid (HK8.out.on (below_drewN (Below.refl _ _) x9)))
      | (go_at_call 72
         refine (octRawD p (n - a6) m b v1 s6 s7 _ HK9.out.ord HS7.out HM.out (by omega) Hmx.out).mono ?_
         rintro e w10 ⟨vA, vc, rfl, hv, ha⟩
         have K := HK9.out.next ha
         have hxc := K.bq.cell
         have hxf := K.bq.free
         have hxl := K.bq.lt
         have hzc := K.bz.cell
         have hzf := K.bz.free
         have hzl := K.bz.lt
         have HV := Lib.hid (ownsRow_rd hv)
         have HK10 := Lib.hid K
         clear hv ha K)
      | (go_at_call 73
         refine (octEnd p b s7 _ HK10.out.ord).mono ?_
         rintro e w11 ⟨x, y, rfl, hx, hb⟩
         have K := HK10.out.on hb
         have hxc := K.bq.cell
         have hxf := K.bq.free
         have hxl := K.bq.lt
         have hzc := K.bz.cell
         have hzf := K.bz.free
         have hzl := K.bz.lt
         have HK11 := Lib.hid K
         have HV11 := Lib.hid ((HV.out.below hb).mono hb.size)
         obtain rfl : x = 0 := hx.1 HGD.out
         have hst := run_str w11 _ vA m vc v1 HM.out HV11.out
         clear hx hb K)
      | (go_at_call 75
         refine (short_any v1 vl _ HVL.out (by omega)).mono ?_
         rintro e w13 ⟨sA, sc, rfl, _, hb⟩
         rw [HSM.out]
         have K := (HK11.out.set 6 (.string ⟨v1.toArray⟩)).on hb
         have hxc := K.bq.cell
         have hxf := K.bq.free
         have hxl := K.bq.lt
         have hzc := K.bz.cell
         have hzf := K.bz.free
         have hzl := K.bz.lt
         have HK13 := Lib.hid K
         clear hb K))
    have HKF : Hid (RB w w13.drew w.heap.size p w2.heap.size b s7 #[.int .i64 2, .int .i64 (o1 : Nat), .int .i64 (t1 : Nat), .int .i64 (p1 : Nat), .int .i64 (q1 : Nat), .string ⟨k1.toArray⟩, .string ⟨v1.toArray⟩]) := by
      show RB _ _ _ _ _ _ _ _
      have := HK13.out.on ((Below.refl w13.heap.size w13).drew)
      simpa using this
    obtain ⟨wz, hwz⟩ : ∃ wz, w13.drew = wz := ⟨_, rfl⟩
    rw [hwz] at HKF
    have hS0 : (fun w' : World => w'.cell? ⟨w2.heap.size, 0, none⟩ = some (.int .i64 2) ∧ w'.cell? ⟨w2.heap.size, 1, none⟩ = some (.int .i64 (o1 : Nat)) ∧ w'.cell? ⟨w2.heap.size, 2, none⟩ = some (.int .i64 (t1 : Nat)) ∧ w'.cell? ⟨w2.heap.size, 3, none⟩ = some (.int .i64 (p1 : Nat)) ∧ w'.cell? ⟨w2.heap.size, 4, none⟩ = some (.int .i64 (q1 : Nat)) ∧ w'.cell? ⟨w2.heap.size, 5, none⟩ = some (.string ⟨k1.toArray⟩) ∧ w'.cell? ⟨w2.heap.size, 6, none⟩ = some (.string ⟨v1.toArray⟩)) wz := ⟨HKF.out.cell 0, HKF.out.cell 1, HKF.out.cell 2, HKF.out.cell 3, HKF.out.cell 4, HKF.out.cell 5, HKF.out.cell 6⟩
    clear hxc hxf hxl hzc hzf hzl
    refine WT.start (fun w' : World => w'.cell? ⟨w2.heap.size, 0, none⟩ = some (.int .i64 2) ∧ w'.cell? ⟨w2.heap.size, 1, none⟩ = some (.int .i64 (o1 : Nat)) ∧ w'.cell? ⟨w2.heap.size, 2, none⟩ = some (.int .i64 (t1 : Nat)) ∧ w'.cell? ⟨w2.heap.size, 3, none⟩ = some (.int .i64 (p1 : Nat)) ∧ w'.cell? ⟨w2.heap.size, 4, none⟩ = some (.int .i64 (q1 : Nat)) ∧ w'.cell? ⟨w2.heap.size, 5, none⟩ = some (.string ⟨k1.toArray⟩) ∧ w'.cell? ⟨w2.heap.size, 6, none⟩ = some (.string ⟨v1.toArray⟩)) 5 (by kernel_rfl) ?_
    rw [hwz]
    clear hwz
    refine WT.take 0 (v := ?_) rfl (by kernel_rfl) (by kernel_rfl) (by kernel_rfl) (by kernel_rfl) (fun _ _ _ h => h) (Or.inl ⟨by rfl, ?hy⟩) hS0 ?_
    case hy => first | (intro w hSw; go_simp; done) | (intro w hSw; go_simp; with_reducible rfl)
    simp only [Act.put, List.setIfInBounds_toArray, List.set_cons_zero, List.set_cons_succ]
    refine WT.take 1 (v := ?_) rfl (by kernel_rfl) (by kernel_rfl) (by kernel_rfl) (by kernel_rfl) (fun _ _ _ h => h) (Or.inl ⟨by rfl, ?hy⟩) hS0 ?_
    case hy => first | (intro w hSw; go_simp; done) | (intro w hSw; go_simp; with_reducible rfl)
    simp only [Act.put, List.setIfInBounds_toArray, List.set_cons_zero, List.set_cons_succ]
    refine WT.step 2 rfl (by kernel_rfl) (by decide) fun K hK => ?_
    go_simp
    go_at_call 76
    refine (chk_any 2 o1 t1 p1 q1 k1 v1 _).mono ?_
    rintro e w14 ⟨rfl, hb14⟩
    have HKG := Lib.hid (HKF.out.on hb14)
    have hS1 : (fun w' : World => w'.cell? ⟨w2.heap.size, 0, none⟩ = some (.int .i64 2) ∧ w'.cell? ⟨w2.heap.size, 1, none⟩ = some (.int .i64 (o1 : Nat)) ∧ w'.cell? ⟨w2.heap.size, 2, none⟩ = some (.int .i64 (t1 : Nat)) ∧ w'.cell? ⟨w2.heap.size, 3, none⟩ = some (.int .i64 (p1 : Nat)) ∧ w'.cell? ⟨w2.heap.size, 4, none⟩ = some (.int .i64 (q1 : Nat)) ∧ w'.cell? ⟨w2.heap.size, 5, none⟩ = some (.string ⟨k1.toArray⟩) ∧ w'.cell? ⟨w2.heap.size, 6, none⟩ = some (.string ⟨v1.toArray⟩)) w14 := ⟨HKG.out.cell 0, HKG.out.cell 1, HKG.out.cell 2, HKG.out.cell 3, HKG.out.cell 4, HKG.out.cell 5, HKG.out.cell 6⟩
    clear hb14
    have hzf := HKG.out.bz.free
    have hzl := HKG.out.bz.lt
    have hzc := HKG.out.bz.cell
    go_simp
    refine hK.out _ _ hS1 ?_
    clear hK K
    refine WT.take 3 (v := ?_) rfl (by kernel_rfl) (by kernel_rfl) (by kernel_rfl) (by kernel_rfl) (fun _ _ _ h => h) (Or.inl ⟨by rfl, ?hy⟩) hS1 ?_
    case hy => first | (intro w hSw; go_simp; done) | (intro w hSw; go_simp; with_reducible rfl)
    simp only [Act.put, List.setIfInBounds_toArray, List.set_cons_zero, List.set_cons_succ]
    have hne : w2.heap.size ≠ w.heap.size := by have := HKG.out.hz; have := HKG.out.hq; omega
    have hq7 := (((((((HKG.out.bq.far (p := ⟨w.heap.size, 0, none⟩) hne (.int .i64 2)).far (p := ⟨w.heap.size, 1, none⟩) hne (.int .i64 (o1 : Nat))).far (p := ⟨w.heap.size, 2, none⟩) hne (.int .i64 (t1 : Nat))).far (p := ⟨w.heap.size, 3, none⟩) hne (.int .i64 (p1 : Nat))).far (p := ⟨w.heap.size, 4, none⟩) hne (.int .i64 (q1 : Nat))).far (p := ⟨w.heap.size, 5, none⟩) hne (.string ⟨k1.toArray⟩)).far (p := ⟨w.heap.size, 6, none⟩) hne (.string ⟨v1.toArray⟩))
    have hS2 : (fun w' : World => w'.cell? ⟨w2.heap.size, 0, none⟩ = some (.int .i64 2) ∧ w'.cell? ⟨w2.heap.size, 1, none⟩ = some (.int .i64 (o1 : Nat)) ∧ w'.cell? ⟨w2.heap.size, 2, none⟩ = some (.int .i64 (t1 : Nat)) ∧ w'.cell? ⟨w2.heap.size, 3, none⟩ = some (.int .i64 (p1 : Nat)) ∧ w'.cell? ⟨w2.heap.size, 4, none⟩ = some (.int .i64 (q1 : Nat)) ∧ w'.cell? ⟨w2.heap.size, 5, none⟩ = some (.string ⟨k1.toArray⟩) ∧ w'.cell? ⟨w2.heap.size, 6, none⟩ = some (.string ⟨v1.toArray⟩)) (((((((w14.setCell ⟨w.heap.size, 0, none⟩ (.int .i64 2)).setCell ⟨w.heap.size, 1, none⟩ (.int .i64 (o1 : Nat))).setCell ⟨w.heap.size, 2, none⟩ (.int .i64 (t1 : Nat))).setCell ⟨w.heap.size, 3, none⟩ (.int .i64 (p1 : Nat))).setCell ⟨w.heap.size, 4, none⟩ (.int .i64 (q1 : Nat))).setCell ⟨w.heap.size, 5, none⟩ (.string ⟨k1.toArray⟩)).setCell ⟨w.heap.size, 6, none⟩ (.string ⟨v1.toArray⟩)) := ⟨hq7.cell 0, hq7.cell 1, hq7.cell 2, hq7.cell 3, hq7.cell 4, hq7.cell 5, hq7.cell 6⟩
    clear hq7
    refine WT.step 4 rfl (by kernel_rfl) (by decide) fun K hK => ?_
    go_simp
    refine hK.out _ _ hS2 ?_
    clear hK K
    refine WT.last 5 rfl (by kernel_rfl) rfl fun K hK => ?_
    go_simp
    refine hK.out _ _ ?_
    clear hK K
    refine WT.done (by kernel_rfl) ?_
    go_wp2
    refine bodyPost_ret (v := .tuple #[.agg #[.int .i64 2, .int .i64 (o1 : Nat), .int .i64 (t1 : Nat), .int .i64 (p1 : Nat), .int .i64 (q1 : Nat), .string ⟨k1.toArray⟩, .string ⟨v1.toArray⟩], .bool (chkR ⟨2, o1, t1, p1, q1, k1, v1⟩ == 0)]) ?_ rfl ?_
    · simp [results, Tryz.results49, go_sem, hzc, hzl]
    refine ⟨⟨2, o1, t1, p1, q1, k1, v1, _, rfl, ?_⟩, ?_⟩
    · by_cases hck : chkR ⟨2, o1, t1, p1, q1, k1, v1⟩ = 0
      · exact .inr ⟨by rw [HRD.out, if_pos hck], by simpa using hck⟩
      exact .inl ⟨by rw [HRD.out, if_neg hck], by simpa using hck⟩
    have hB := HKG.out.bel
    repeat (first | with_reducible exact hB | refine Below.setCell ?_ (by simp) _)
  rw [if_pos hsm] at HRC
  have HE : Hid (RR = none) := HRC
  have HSM : Hid (small v1 = true) := by show _ = _; simpa using hsm
  clear HRC hsm ht hsq
  go_wp2_with (first
    | (go_at_call 24
       refine (octNewR A n c b _ HAZ.out HL.out (by omega)).mono ?_
       rintro e w1 ⟨p, rfl, ho, hp, hb⟩
       have hpz : w.heap.size < p := by simp at hp; omega
       have H1 := Lib.hid (And.intro ho hb)
       have T1 : True := trivial
       clear ho hp hb)
    | (go_at_call 25
       refine (octByteD p f1 b ⟨0, false⟩ s1 _ H1.out.1 HS1.out Hmx.out).mono ?_
       rintro e w2 ⟨rfl, ha⟩
       have hb1 := H1.out.2
       have hzb : Box w1 w.heap.size 33 #[.int .i64 0, .int .i64 0, .int .i64 0, .int .i64 0, .int .i64 0, .string ⟨#[]⟩, .string ⟨#[]⟩] := (Box.new w _ _).below hb1 (by simp)
       have hbw1 : Below w.heap.size w w1 := ((Below.refl _ _).alloc (Nat.le_refl _) _).trans (hb1.mono (by simp))
       have hzb2 := hzb.chg ha.2 (fun e => by have e' : w.heap.size = p := e; omega)
       have hpl : p < w2.heap.size := ha.1.lt
       have K2 : RB w (w2.alloc (.cells #[.int .i64 2, .int .i64 0, .int .i64 0, .int .i64 0, .int .i64 0, .string ⟨#[]⟩, .string ⟨#[]⟩] 33)) w.heap.size p w2.heap.size b s1 #[.int .i64 2, .int .i64 0, .int .i64 0, .int .i64 0, .int .i64 0, .string ⟨#[]⟩, .string ⟨#[]⟩] :=
         ⟨ha.1.below ((Below.refl _ _).alloc (Nat.le_refl _) _), hzb2.alloc _, Box.new w2 _ _, (hbw1.trans (ha.2.below hbw1.size (fun k hk => by have hk' : k = p := hk; omega))).alloc (by omega) _, rfl, hpz, hpl⟩
       have hxc := K2.bq.cell
       have hxf := K2.bq.free
       have hxl := K2.bq.lt
       have hzc := K2.bz.cell
       have hzf := K2.bz.free
       have hzl := K2.bz.lt
       have HK2 := Lib.hid K2
       clear ha hb1 hzb hbw1 hzb2 K2)
    | (go_at_call 70
       have zz := T1
       clear zz
       refine (octNum p o1 b s1 s2 _ HK2.out.ord HS2.out Hmx.out).mono ?_
       rintro e w3 ⟨x3, rfl, hx, ha⟩
       obtain rfl := hx HLT2.out
       have K := HK2.out.next ha
       have hxc := K.bq.cell
       have hxf := K.bq.free
       have hxl := K.bq.lt
       have hzc := K.bz.cell
       have hzf := K.bz.free
       have hzl := K.bz.lt
       have HK3 := Lib.hid (K.set 1 (.int .i64 (o1 : Nat)))
       have T2 : True := trivial
       clear ha K T1)
    | (go_at_call 70
       have zz := T2
       clear zz
       refine (octNum p t1 b s2 s3 _ HK3.out.ord HS3.out Hmx.out).mono ?_
       rintro e w4 ⟨x4, rfl, hx, ha⟩
       obtain rfl := hx HLT3.out
       have K := HK3.out.next ha
       have hxc := K.bq.cell
       have hxf := K.bq.free
       have hxl := K.bq.lt
       have hzc := K.bz.cell
       have hzf := K.bz.free
       have hzl := K.bz.lt
       have HK4 := Lib.hid (K.set 2 (.int .i64 (t1 : Nat)))
       have T3 : True := trivial
       clear ha K T2)
    | (go_at_call 70
       have zz := T3
       clear zz
       refine (octNum p p1 b s3 s4 _ HK4.out.ord HS4.out Hmx.out).mono ?_
       rintro e w5 ⟨x5, rfl, hx, ha⟩
       obtain rfl := hx HLT4.out
       have K := HK4.out.next ha
       have hxc := K.bq.cell
       have hxf := K.bq.free
       have hxl := K.bq.lt
       have hzc := K.bz.cell
       have hzf := K.bz.free
       have hzl := K.bz.lt
       have HK5 := Lib.hid (K.set 3 (.int .i64 (p1 : Nat)))
       have T4 : True := trivial
       clear ha K T3)
    | (go_at_call 70
       have zz := T4
       clear zz
       refine (octNum p q1 b s4 s5 _ HK5.out.ord HS5.out Hmx.out).mono ?_
       rintro e w6 ⟨x6, rfl, hx, ha⟩
       obtain rfl := hx HLT5.out
       have K := HK5.out.next ha
       have hxc := K.bq.cell
       have hxf := K.bq.free
       have hxl := K.bq.lt
       have hzc := K.bz.cell
       have hzf := K.bz.free
       have hzl := K.bz.lt
       have HK6 := Lib.hid (K.set 4 (.int .i64 (q1 : Nat)))
       have T5 : True := trivial
       clear ha K T4)
    | (go_at_call 71
       refine (octTxD p 64 b k1 s5 s6 _ HK6.out.ord HS6.out Hmx.out (by omega)).mono ?_
       rintro e w8 ⟨rfl, ha⟩
       have K := HK6.out.next ha
       have hxc := K.bq.cell
       have hxf := K.bq.free
       have hxl := K.bq.lt
       have hzc := K.bz.cell
       have hzf := K.bz.free
       have hzl := K.bz.lt
       have HK8 := Lib.hid (K.set 5 (.string ⟨k1.toArray⟩))
       clear ha K)
    | (go_at_call 69
       refine (octRestD p n a6 b s6 _ HK8.out.ord HL.out HA6.out (by omega)).mono ?_
       rintro e w9 ⟨rfl, x9, rfl⟩
       rw [show ((n : Int) - a6) = ((n - a6 : Nat) : Int) by omega]
       have HK9 := Lib.hid (HK8.out.on (below_drewN (Below.refl _ _) x9)))
    | (go_at_call 72
       refine (octRawD p (n - a6) m b v1 s6 s7 _ HK9.out.ord HS7.out HM.out (by omega) Hmx.out).mono ?_
       rintro e w10 ⟨vA, vc, rfl, hv, ha⟩
       have K := HK9.out.next ha
       have hxc := K.bq.cell
       have hxf := K.bq.free
       have hxl := K.bq.lt
       have hzc := K.bz.cell
       have hzf := K.bz.free
       have hzl := K.bz.lt
       have HV := Lib.hid (ownsRow_rd hv)
       have HK10 := Lib.hid K
       clear hv ha K)
    | (go_at_call 73
       refine (octEnd p b s7 _ HK10.out.ord).mono ?_
       rintro e w11 ⟨x, y, rfl, hx, hb⟩
       have K := HK10.out.on hb
       have hxc := K.bq.cell
       have hxf := K.bq.free
       have hxl := K.bq.lt
       have hzc := K.bz.cell
       have hzf := K.bz.free
       have hzl := K.bz.lt
       have HK11 := Lib.hid K
       have HV11 := Lib.hid ((HV.out.below hb).mono hb.size)
       obtain rfl : x = 0 := hx.1 HGD.out
       have hst := run_str w11 _ vA m vc v1 HM.out HV11.out
       clear hx hb K)
    | (go_at_call 75
       refine (short_any v1 vl _ HVL.out (by omega)).mono ?_
       rintro e w13 ⟨sA, sc, rfl, _, hb⟩
       rw [HSM.out]
       have K := (HK11.out.set 6 (.string ⟨v1.toArray⟩)).on hb
       have hxc := K.bq.cell
       have hxf := K.bq.free
       have hxl := K.bq.lt
       have hzc := K.bz.cell
       have hzf := K.bz.free
       have hzl := K.bz.lt
       have HK13 := Lib.hid K
       clear hb K))
  refine bodyPost_ret (v := .tuple #[.agg #[.int .i64 0, .int .i64 0, .int .i64 0, .int .i64 0, .int .i64 0, .string ⟨#[]⟩, .string ⟨#[]⟩], .bool false]) ?_ rfl ?_
  · simp [results, Tryz.results49, go_sem, hzc, hzl]
  refine ⟨⟨0, 0, 0, 0, 0, [], [], false, rfl, .inl ⟨HE.out, rfl⟩⟩, ?_⟩
  have hB := HK13.out.bel
  have hzz := HK13.out.zz
  repeat (first | with_reducible exact hB | refine Below.setCell ?_ (by simp) _)
end Go.Proofs.YtmhlgbpgdhhfnaaGreat
